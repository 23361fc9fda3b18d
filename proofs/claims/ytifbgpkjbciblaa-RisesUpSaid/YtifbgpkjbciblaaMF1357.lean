/- Texts that YtifbgpkjbciblaaF135 leans on, laid together: V8 V9 V10 V11 V12 V13 H5 V14. -/
import Derived.Test.YtifbgpkjbciblaaMF1356
section
/- (*state).far. -/
set_option maxRecDepth 100000
namespace Go.Proofs.Ytifbgpkjbciblaa.Sal
open Go.RowKit
attribute [local irreducible] Go.Code.wpIn Go.wpListIn Ct Ints Rows Sl At Rw WJ
set_option linter.all false
set_option maxHeartbeats 4000000 in
theorem far_ct {s : Nat} {rv bv ov pcv wv mv : Value} {res : List Int} {bids : List (List Int)} {ord prices set : List Int} {n : Nat} {w : World} (setv : Value)
    (hS : St w s rv bv ov pcv wv mv res bids ord prices (rowL bids.length (mustB bids prices)) (gL (RD bids prices) bids.length n)) (hset : Ints w setv set) (hn : n = prices.length) (hn8 : n ≤ 8) (hm8 : bids.length ≤ 8)
    (hb : ∀ i, i < bids.length → badBid (n : Int) (bids.getD i []) = false) (hm : mayD prices (n : Int) = true) (hne : 1 ≤ (farL bids prices set n (rowL bids.length (mustB bids prices)) (rowL bids.length (mustB bids prices)).length).length) :
    Ct Try.prog 48 #[.pointer (some ⟨s, 0, none⟩), setv] w fun u w' => u = .int .i64 (farBy bids prices set n (rowL bids.length (mustB bids prices))) ∧ Ex w w' := by
  obtain ⟨must, hmu⟩ : ∃ must, must = rowL bids.length (mustB bids prices) := ⟨_, rfl⟩
  have hml : must.length ≤ 8 := by rw [hmu, rowL_len]; have := rowN_le bids.length (mustB bids prices); omega
  have hlb : ∀ i, i < bids.length → lenB bids i = 0 ∨ lenB bids i = n := fun i hi => by
    rcases len_bid (hb i hi) with h1 | h1
    · exact .inl h1
    · exact .inr (by unfold lenB; omega)
  rw [← hmu] at hS hne ⊢
  obtain ⟨sa, sc, rfl⟩ := hset.form
  refine Exists.elim in_ib fun ti hti => ?_
  refine enter (N := 71) (vs := [.pointer (some ⟨s, 0, none⟩), .slice sa set.length sc]) Try.func48 rfl rfl rfl ?_
  repeat ((refine isC ?_; refine c_sr ?_))
  refine s_box (cs := [.slice sa set.length sc]) rfl rfl ?_
  intro b3 w1 hb3 hA3 hx1 hs1
  repeat (first | (refine isO ?_; refine s_assign ?_) | (refine isC ?_; refine c_sr ?_) | (refine l_th ?_))
  refine s_mkfn (vs := [.pointer (some ⟨b3, 0, none⟩)]) rfl ?_
  refine s_alloc (cs := [.nilFunc]) hti.1 hti.2 rfl ?_
  intro b5 w2 hb5 hA5 hx2 hs2
  refine s_stA (n := 0) (u := .func (.func 63) #[] [.pointer (some ⟨b3, 0, none⟩)].toArray) ty_ib rfl rfl rfl hA5 (by simp) ?_
  intro w3 hA53' hg3
  have hA53 : At w3 b5 70 [.func (.func 63) #[] [.pointer (some ⟨b3, 0, none⟩)].toArray] := hA53'
  have z1 := hx1.size
  have z2 := hx2.size
  have z3 := hg3.size
  have l3 := hA3.lt
  have hx3 : Ex w w3 := (hx1.trans hx2).store hg3 (by omega)
  have hA33 := (hA3.ex hx2).grown hg3 (fun e => by cases e; omega)
  have hset3 := hset.ex hx3
  have hS3 := hS.ex hx3
  have hmuI := hS3.mu
  repeat (first | (refine isO ?_; first | refine s_move ?_ | refine s_assign ?_) | (refine isC ?_; first | refine c_sr ?_ | refine c_seq ?_) | (refine l_th ?_))
  refine s_nil rfl ?_
  refine s_faN Try.underlying81 rfl ty_ints.n rfl ?_
  refine s_ldA ty_ints rfl hS3.at' rfl ?_
  repeat (first | (refine isO ?_; first | refine s_move ?_ | (refine isCall ?_; refine s_lenI sl_ints rfl (by assumption) ?_)) | (refine isC ?_; refine c_block ?_) | (refine l_th ?_))
  refine c_loop (γ := Nat × Value) 590295810358705522496 (fun q => [(17, .int .i64 (q.1 : Int)), (6, q.2)]) (fun q W => q.1 ≤ must.length ∧ LI w3 W 3 q.2 (farL bids prices set n must q.1) ∧ Ex w3 W) (fun q => must.length - q.1) (0, .slice none 0 0) ⟨rfl, rfl, trivial⟩ ⟨Nat.zero_le _, LI.nil _ _ _, Ex.refl _⟩ ?_
  rintro ⟨j, lv⟩ ρ W ⟨hj, hL, hxW⟩
  have hSW := hS3.ex hxW
  have hmuW := hSW.mu
  have hA3W := hA33.ex hxW
  have hA5W := hA53.ex hxW
  have hsetW := hset3.ex hxW
  have hx0W := hx3.trans hxW
  repeat (first | (refine isO ?_; (refine isBin ?_; refine s_lss rfl rfl ?_)) | (refine isC ?_; first | refine c_sr ?_ | refine c_seq ?_) | (refine l_th ?_))
  refine c_ifd rfl (fun h => ?_) (fun h => ?_)
  · have hj' : j < must.length := by omega
    have hjr : j < (rowN bids.length (mustB bids prices)).length := by rw [hmu, rowL_len] at hj'; exact hj'
    obtain ⟨i, hi⟩ : ∃ i, i = (rowN bids.length (mustB bids prices)).getD j 0 := ⟨_, rfl⟩
    have hgj : must.getD j 0 = (i : Int) := by rw [hmu, rowL_get _ _ hjr, hi]
    have him := rowN_get hjr
    rw [← hi] at him
    obtain ⟨him1, him2⟩ := him
    have hmw := must_wants (hlb i him1) him2
    obtain ⟨hli, hwp⟩ := hmw
    have hfs : farL bids prices set n must (j + 1) = farL bids prices set n must j ++ farOne bids prices set n i := by
      show farL bids prices set n must j ++ farOne bids prices set n (must.getD j 0).toNat = _
      rw [hgj]; rfl
    have hfl := farL_len (bids := bids) (prices := prices) (set := set) hn8 (must := must) j
    have hgl : i < (gL (RD bids prices) bids.length n).length := by rw [gL_len]; exact him1
    have hrow : (gL (RD bids prices) bids.length n).getD i [] = rowL n (RD bids prices i) := gL_row him1
    have hwW := hSW.wa
    repeat (first | (refine isO ?_; first | refine s_move ?_ | refine s_assign ?_ | (refine isIA ?_; refine s_ixI sl_ints ty_int rfl rfl rfl (by assumption) (by omega) ?_; intro _)) | (refine isC ?_; first | refine c_sr ?_ | refine c_th ?_ | refine c_seq ?_ | refine c_block ?_) | (refine l_th ?_))
    refine s_nil rfl ?_
    refine s_faN Try.underlying81 rfl ty_rows.n rfl ?_
    refine s_ldA ty_rows rfl hSW.at' rfl ?_
    repeat ((refine isO ?_; refine s_move ?_))
    refine s_ixR (n := i) sl_rows ty_ints rfl rfl (vint hgj) hwW hgl ?_
    intro pv1 u hu
    rw [hrow] at hu
    refine s_mkfn (vs := [.pointer (some ⟨b5, 0, none⟩)]) rfl ?_
    refine s_call ok_cfI rfl (cfI_ct u _ 64 [.pointer (some ⟨b5, 0, none⟩)] (fun q => !set.contains q) W hu ⟨ok_far2, fun x w5 h5 => far2_ct b3 b5 _ set x w5 (hA3W.ex h5) (hsetW.ex h5) (hA5W.ex h5)⟩) ?_
    rintro u2 W1 ⟨rfl, hx1W⟩
    refine Or.elim (tfV (elseB bids prices set n i)) (fun he => ?_) (fun he => ?_)
    · refine s_re (v' := .bool true) (vbool he) ?_
      repeat (first | (refine isO ?_; first | refine s_move ?_ | (refine isBin ?_; refine s_inc rfl (by omega) ?_)) | (refine isC ?_; first | refine c_region ?_ | refine c_ift rfl ?_ | refine c_exit ?_) | (refine l_th ?_))
      refine loop_end (j + 1, lv) (by (repeat (first | exact agree_refl _ _ | refine agree_upd rfl ?_ | refine agree_ext rfl ?_ | refine agree_mask rfl ?_))) ⟨vint (by omega), rfl, trivial⟩ ⟨hj', ?_, hxW.trans hx1W⟩ (by show must.length - (j + 1) < must.length - j; omega)
      show LI w3 W1 _ lv (farL bids prices set n must (j + 1))
      rw [hfs]
      unfold farOne
      rw [if_pos he, List.append_nil]
      exact hL.ex hx1W
    · refine s_re (v' := .bool false) (vbool he) ?_
      have hfo : farOne bids prices set n i = dG bids prices i :: farIn bids prices set i n := by unfold farOne; rw [he]; rfl
      have hSW1 := hSW.ex hx1W
      have hwW1 := hSW1.wa
      obtain ⟨k0, hk0⟩ : ∃ k0, k0 = (rowN n (RD bids prices i)).getD 0 0 := ⟨_, rfl⟩
      have hg0 : (rowL n (RD bids prices i)).getD 0 0 = (k0 : Int) := by rw [rowL_get _ _ hwp, hk0]
      have hk0' := rowN_get hwp
      rw [← hk0] at hk0'
      obtain ⟨hk01, hk02⟩ := hk0'
      have hgk : gD bids prices i k0 = dG bids prices i := by
        unfold RD at hk02
        simp only [Bool.and_eq_true, decide_eq_true_eq] at hk02
        exact hk02.2.2
      have hrl := rowL_len n (RD bids prices i)
      repeat (first | (refine isO ?_; refine s_move ?_) | (refine isC ?_; first | refine c_sr ?_ | refine c_th ?_ | refine c_iff rfl ?_) | (refine l_th ?_))
      refine s_nil rfl ?_
      refine s_faN Try.underlying81 rfl ty_rows.n rfl ?_
      refine s_ldA ty_rows rfl hSW1.at' rfl ?_
      repeat ((refine isO ?_; refine s_move ?_))
      refine s_ixR (n := i) sl_rows ty_ints rfl rfl (vint hgj) hwW1 hgl ?_
      intro pv2 u3 hu3
      rw [hrow] at hu3
      refine s_ixI (n := 0) sl_ints ty_int rfl rfl rfl hu3 (by omega) ?_
      intro pv3
      have hp1 : k0 < prices.length := by omega
      refine s_call (vs := [.pointer (some ⟨s, 0, none⟩), .int .i64 (must.getD j 0), .int .i64 ((rowL n (RD bids prices i)).getD 0 0)]) ok_rhas rfl (by rw [hgj, hg0]; exact rhas_ct (i := i) (k := k0) hSW1 him1 (by unfold lenB at hli; omega) hp1 (gD_bd hb hm i k0)) ?_
      rintro u4 W2 ⟨rfl, hx2W⟩
      refine s_re (v' := .int .i64 (dG bids prices i)) (vint hgk) ?_
      have hSW2 := hSW1.ex hx2W
      have hL2 := hL.ex (hx1W.trans hx2W)
      have hx32 := (hxW.trans hx1W).trans hx2W
      repeat (first | (refine isO ?_; first | refine s_move ?_ | refine s_assign ?_) | (refine isC ?_; refine c_sr ?_) | (refine l_th ?_))
      refine s_bs1 sl_ints in_int rfl rfl ?_
      intro b7 W3 hb7 hA7 hx7 hs7
      refine s_lapp (w0 := w3) sl_ints in_int (hL2.ex hx7) hA7.one rfl rfl (by simp; omega) (hx32.trans hx7) ?_
      intro v4 W4 hL4 hx34
      have hSW4 := hS3.ex hx34
      have hprW4 := hSW4.pr
      have hdb := dG_bd hb hm i
      repeat (first | (refine isO ?_; first | refine s_move ?_ | refine s_assign ?_) | (refine isC ?_; refine c_sr ?_) | (refine l_th ?_))
      refine s_nil rfl ?_
      refine s_faN Try.underlying81 rfl ty_ints.n rfl ?_
      refine s_ldA ty_ints rfl hSW4.at' rfl ?_
      repeat (first | (refine isO ?_; first | refine s_move ?_ | (refine isCall ?_; refine s_lenI sl_ints rfl (by assumption) ?_)) | (refine isC ?_; refine c_block ?_) | (refine l_th ?_))
      refine c_loop (γ := Nat × Value) 295145653379539141696 (fun q => [(51, .int .i64 (q.1 : Int)), (6, q.2)]) (fun q W' => q.1 ≤ n ∧ LI w3 W' 3 q.2 (farL bids prices set n must j ++ (dG bids prices i :: farIn bids prices set i q.1)) ∧ Ex w3 W') (fun q => n - q.1) (0, v4) ⟨rfl, rfl, trivial⟩ ⟨Nat.zero_le _, hL4, hx34⟩ ?_
      rintro ⟨k, kv⟩ ρ2 V ⟨hk, hLV, hxV⟩
      have hSV := hS3.ex hxV
      have hA3V := hA33.ex hxV
      have hA5V := hA53.ex hxV
      have hsetV := hset3.ex hxV
      have hx0V := hx3.trans hxV
      have hfik := farIn_len bids prices set i k
      repeat (first | (refine isO ?_; (refine isBin ?_; refine s_lss rfl rfl ?_)) | (refine isC ?_; first | refine c_sr ?_ | refine c_seq ?_) | (refine l_th ?_))
      refine c_ifd rfl (fun h2 => ?_) (fun h2 => ?_)
      · have hk' : k < n := by omega
        have hgb := gD_bd hb hm i k
        repeat (first | (refine isO ?_; first | refine s_move ?_ | refine s_assign ?_) | (refine isC ?_; first | refine c_sr ?_ | refine c_th ?_ | refine c_seq ?_ | refine c_block ?_) | (refine l_th ?_))
        refine s_ldA ty_ib rfl hA5V rfl ?_
        repeat ((refine isO ?_; refine s_move ?_))
        refine s_callv (by intro f e; cases e) rfl ok_far1 rfl (far1_ct b3 _ set (k : Int) V hA3V hsetV) ?_
        rintro u5 V1 ⟨rfl, hxV1⟩
        have hfs1 : farIn bids prices set i (k + 1) = farIn bids prices set i k ++ (if set.contains (k : Int) then [] else [dG bids prices i - gD bids prices i k]) := rfl
        refine Or.elim (tfV (set.contains (k : Int))) (fun hc => ?_) (fun hc => ?_)
        · refine s_re (v' := .bool true) (vbool hc) ?_
          rw [if_pos hc, List.append_nil] at hfs1
          repeat (first | (refine isO ?_; first | refine s_move ?_ | (refine isBin ?_; refine s_inc rfl (by omega) ?_) | refine s_not rfl ?_) | (refine isC ?_; first | refine c_region ?_ | refine c_iff rfl ?_ | refine c_skip ?_) | (refine l_th ?_))
          refine loop_end (k + 1, kv) (by (repeat (first | exact agree_refl _ _ | refine agree_upd rfl ?_ | refine agree_ext rfl ?_ | refine agree_mask rfl ?_))) ⟨vint (by omega), rfl, trivial⟩ ⟨hk', ?_, hxV.trans hxV1⟩ (by show n - (k + 1) < n - k; omega)
          show LI w3 V1 _ kv (farL bids prices set n must j ++ (dG bids prices i :: farIn bids prices set i (k + 1)))
          rw [hfs1]; exact hLV.ex hxV1
        · refine s_re (v' := .bool false) (vbool hc) ?_
          rw [if_neg (by rw [hc]; simp)] at hfs1
          have hSV1 := hSV.ex hxV1
          repeat (first | (refine isO ?_; first | refine s_move ?_ | refine s_not rfl ?_) | (refine isC ?_; first | refine c_region ?_ | refine c_ift rfl ?_) | (refine l_th ?_))
          refine s_call (vs := [.pointer (some ⟨s, 0, none⟩), .int .i64 (must.getD j 0), .int .i64 (k : Int)]) ok_rhas rfl (by rw [hgj]; exact rhas_ct (i := i) (k := k) hSV1 him1 (by unfold lenB at hli; omega) (by omega) hgb) ?_
          rintro u6 V2 ⟨rfl, hxV2⟩
          repeat ((refine isO ?_; (refine isBin ?_; refine s_sub rfl rfl ⟨by omega, by omega⟩ ?_)))
          refine s_bs1 sl_ints in_int rfl rfl ?_
          intro b8 V3 hb8 hA8 hx8 hs8
          refine s_lapp (w0 := w3) sl_ints in_int (hLV.ex ((hxV1.trans hxV2).trans hx8)) hA8.one rfl rfl (by simp; omega) (((hxV.trans hxV1).trans hxV2).trans hx8) ?_
          intro v5 V4 hL5 hx35
          repeat (first | (refine isO ?_; first | refine s_move ?_ | refine s_assign ?_ | (refine isBin ?_; refine s_inc rfl (by omega) ?_)) | (refine isC ?_; refine c_region ?_) | (first | refine l_th ?_ | refine l_nil ?_))
          refine loop_end (k + 1, v5) (by (repeat (first | exact agree_refl _ _ | refine agree_upd rfl ?_ | refine agree_ext rfl ?_ | refine agree_mask rfl ?_))) ⟨vint (by omega), rfl, trivial⟩ ⟨hk', ?_, ?_⟩ (by show n - (k + 1) < n - k; omega)
          · show LI w3 V4 _ v5 (farL bids prices set n must j ++ (dG bids prices i :: farIn bids prices set i (k + 1)))
            rw [hfs1]
            have e9 : farL bids prices set n must j ++ (dG bids prices i :: farIn bids prices set i k) ++ [dG bids prices i - gD bids prices i k] = farL bids prices set n must j ++ (dG bids prices i :: (farIn bids prices set i k ++ [dG bids prices i - gD bids prices i k])) := by simp
            rw [e9] at hL5; exact hL5
          · exact hx35
      · have hkn : k = n := by omega
        subst hkn
        repeat (first | (refine isO ?_; first | refine s_move ?_ | (refine isBin ?_; refine s_inc rfl (by omega) ?_)) | (refine isC ?_; first | refine c_region ?_ | refine c_exit ?_) | (refine l_th ?_))
        refine loop_end (j + 1, kv) (by (repeat (first | exact agree_refl _ _ | refine agree_upd rfl ?_ | refine agree_ext rfl ?_ | refine agree_mask rfl ?_))) ⟨vint (by omega), rfl, trivial⟩ ⟨hj', ?_, hxV⟩ (by show must.length - (j + 1) < must.length - j; omega)
        show LI w3 V _ kv (farL bids prices set k must (j + 1))
        rw [hfs, hfo]; exact hLV
  · have hjm : j = must.length := by omega
    subst hjm
    have hfl := farL_len (bids := bids) (prices := prices) (set := set) hn8 (must := must) must.length
    repeat (first | (refine isO ?_; refine s_move ?_) | (refine isC ?_; first | refine c_sr ?_ | refine c_exit ?_))
    refine s_call ok_rleast rfl (rleast_ct lv _ W (hL.ints (show (farL bids prices set n must must.length).length ≤ 1000000 by omega)) hne) ?_
    rintro u W1 ⟨rfl, hx1W⟩
    repeat (first | (refine isO ?_; refine s_assign ?_) | (refine isC ?_; refine c_ret ?_) | (refine l_th ?_))
    exact ret1 rfl rfl ⟨rfl, hx0W.trans hx1W⟩
end Go.Proofs.Ytifbgpkjbciblaa.Sal
end
section
/- (*state).step. -/
set_option maxRecDepth 100000
namespace Go.Proofs.Ytifbgpkjbciblaa.Sal
open Go.RowKit
theorem mnL_le (l : List Int) : ∀ i j, j ≤ i → mnL l i ≤ l.getD j 0
  | 0, j, h => by obtain rfl : j = 0 := by omega
                  exact Int.le_refl _
  | i + 1, j, h => by
    show (if l.getD (i + 1) 0 < mnL l i then l.getD (i + 1) 0 else mnL l i) ≤ _
    by_cases e : j = i + 1
    · subst e; split <;> omega
    · have := mnL_le l i j (by omega); split <;> omega
theorem mnL_is (l : List Int) : ∀ i, ∃ j, j ≤ i ∧ mnL l i = l.getD j 0
  | 0 => ⟨0, Nat.le_refl _, rfl⟩
  | i + 1 => by
    show ∃ j, j ≤ i + 1 ∧ (if l.getD (i + 1) 0 < mnL l i then l.getD (i + 1) 0 else mnL l i) = l.getD j 0
    split
    · exact ⟨i + 1, Nat.le_refl _, rfl⟩
    · obtain ⟨j, hj, h⟩ := mnL_is l i
      exact ⟨j, by omega, h⟩
theorem mem_farIn {bids : List (List Int)} {prices set : List Int} {i : Nat} {x : Int} : ∀ {n : Nat}, x ∈ farIn bids prices set i n ↔ ∃ k, k < n ∧ set.contains (k : Int) = false ∧ x = dG bids prices i - gD bids prices i k
  | 0 => by simp [farIn]
  | n + 1 => by
    unfold farIn
    rw [List.mem_append, mem_farIn]
    constructor
    · rintro (⟨k, h1, h2, h3⟩ | h)
      · exact ⟨k, by omega, h2, h3⟩
      · split at h
        · cases h
        · rename_i hc
          exact ⟨n, by omega, by simpa using hc, by simpa using h⟩
    · rintro ⟨k, h1, h2, h3⟩
      by_cases e : k = n
      · subst e; right; rw [if_neg (by rw [h2]; simp)]; simp [h3]
      · exact .inl ⟨k, by omega, h2, h3⟩
theorem else_want {bids : List (List Int)} {prices set : List Int} {n i : Nat} : elseB bids prices set n i = !wantB (RD bids prices) n set i := by
  rw [Bool.eq_iff_iff, Bool.not_eq_true']
  unfold elseB
  rw [List.any_eq_true]
  constructor
  · rintro ⟨q, hq, hc⟩
    rw [Bool.not_eq_true'] at hc
    obtain ⟨k, h1, h2, h3⟩ := (rowL_has n _ q).1 (by rw [List.contains_iff_mem]; exact hq)
    cases hw : wantB (RD bids prices) n set i with
    | false => rfl
    | true =>
      have := wantB_iff.1 hw k h1 h2
      rw [h3] at hc; rw [hc] at this; cases this
  · intro h
    have : ¬ ∀ k, k < n → RD bids prices i k = true → set.contains (k : Int) = true := fun hh => by rw [wantB_iff.2 hh] at h; cases h
    simp only [Classical.not_forall] at this
    obtain ⟨k, h1, h2, h3⟩ := this
    refine ⟨(k : Int), ?_, by simpa using h3⟩
    rw [← List.contains_iff_mem]
    exact (rowL_has n _ _).2 ⟨k, h1, h2, rfl⟩
theorem mem_farOne {bids : List (List Int)} {prices set : List Int} {n i : Nat} {x : Int} : x ∈ farOne bids prices set n i ↔ wantB (RD bids prices) n set i = true ∧ (x = dG bids prices i ∨ ∃ k, k < n ∧ set.contains (k : Int) = false ∧ x = dG bids prices i - gD bids prices i k) := by
  unfold farOne
  rw [else_want]
  cases hw : wantB (RD bids prices) n set i with
  | true => simp [mem_farIn]
  | false => simp
theorem mem_farL {bids : List (List Int)} {prices set : List Int} {n : Nat} {must : List Int} {x : Int} : ∀ {j : Nat}, x ∈ farL bids prices set n must j ↔ ∃ j', j' < j ∧ x ∈ farOne bids prices set n (must.getD j' 0).toNat
  | 0 => by simp [farL]
  | j + 1 => by
    unfold farL
    rw [List.mem_append, mem_farL]
    constructor
    · rintro (⟨j', h1, h2⟩ | h)
      · exact ⟨j', by omega, h2⟩
      · exact ⟨j, by omega, h⟩
    · rintro ⟨j', h1, h2⟩
      by_cases e : j' = j
      · subst e; exact .inr h2
      · exact .inl ⟨j', by omega, h2⟩
/-- Within the must-havers' numbers. -/
theorem mem_far {bids : List (List Int)} {prices set : List Int} {n m : Nat} {p : Nat → Bool} {x : Int} : x ∈ farL bids prices set n (rowL m p) (rowL m p).length ↔ ∃ i, i < m ∧ p i = true ∧ x ∈ farOne bids prices set n i := by
  rw [mem_farL]
  constructor
  · rintro ⟨j, h1, h2⟩
    have hj : j < (rowN m p).length := by rw [rowL_len] at h1; exact h1
    have h3 := rowN_get hj
    rw [rowL_get _ _ hj] at h2
    exact ⟨_, h3.1, h3.2, by simpa using h2⟩
  · rintro ⟨i, h1, h2, h3⟩
    have hi : i ∈ rowN m p := mem_rowN.2 ⟨h1, h2⟩
    obtain ⟨j, hj⟩ := List.mem_iff_getElem?.1 hi
    have hjl := (List.getElem?_eq_some_iff.1 hj).1
    refine ⟨j, by rw [rowL_len]; exact hjl, ?_⟩
    rw [rowL_get _ _ hjl]
    have : (rowN m p).getD j 0 = i := by rw [List.getD_eq_getElem?_getD, hj]; rfl
    rw [this]; simpa using h3
theorem by_le {bids : List (List Int)} {prices set : List Int} {n m : Nat} {p : Nat → Bool} {x : Int} (h : x ∈ farL bids prices set n (rowL m p) (rowL m p).length) : farBy bids prices set n (rowL m p) ≤ x := by
  obtain ⟨j, hj⟩ := List.mem_iff_getElem?.1 h
  have hjl := (List.getElem?_eq_some_iff.1 hj).1
  have e : (farL bids prices set n (rowL m p) (rowL m p).length).getD j 0 = x := by rw [List.getD_eq_getElem?_getD, hj]; rfl
  rw [← e]
  exact mnL_le _ _ j (by omega)
theorem by_mem {bids : List (List Int)} {prices set : List Int} {n m : Nat} {p : Nat → Bool} (h : 1 ≤ (farL bids prices set n (rowL m p) (rowL m p).length).length) : farBy bids prices set n (rowL m p) ∈ farL bids prices set n (rowL m p) (rowL m p).length := by
  obtain ⟨j, hj, e⟩ := mnL_is (farL bids prices set n (rowL m p) (rowL m p).length) ((farL bids prices set n (rowL m p) (rowL m p).length).length - 1)
  unfold farBy
  rw [e, List.getD_eq_getElem?_getD, List.getElem?_eq_getElem (by omega)]
  exact List.getElem_mem _
/-- Prices of a set, dearer by as much. -/
def raise (prices set : List Int) (x : Int) : List Int := (List.range prices.length).map fun k => prices.getD k 0 + if set.contains (k : Int) = true then x else 0
theorem raise_len (prices set : List Int) (x : Int) : (raise prices set x).length = prices.length := by simp [raise]
theorem raise_get {prices set : List Int} {x : Int} {k : Nat} (hk : k < prices.length) : (raise prices set x).getD k 0 = prices.getD k 0 + if set.contains (k : Int) = true then x else 0 := by simp [raise, hk]
theorem raise_at (prices set : List Int) (x : Int) (k : Nat) : (raise prices set x)[k]? = if k < prices.length then some (prices.getD k 0 + if set.contains (k : Int) = true then x else 0) else none := by
  unfold raise
  rw [List.getElem?_map]
  split
  · rename_i h; rw [List.getElem?_range h]; rfl
  · rename_i h; rw [List.getElem?_eq_none (by simp; omega)]; rfl
theorem raise_nil (prices : List Int) (x : Int) : raise prices [] x = prices := by
  apply List.ext_getElem
  · simp [raise]
  · intro i h1 h2
    simp [raise, List.getD_eq_getElem?_getD, h2]
theorem raise_succ {prices set : List Int} {x : Int} {n j q : Nat} (hr : risB (-1) set (n : Int) = true) (hj : j < set.length) (hq : set.getD j 0 = (q : Int)) (hqn : q < prices.length) :
    (raise prices (set.take j) x).set q ((raise prices (set.take j) x).getD q 0 + x) = raise prices (set.take (j + 1)) x := by
  have hnot : (set.take j).contains (q : Int) = false := by
    cases hc : (set.take j).contains (q : Int) with
    | false => rfl
    | true =>
      exfalso
      obtain ⟨j', h1, h2⟩ := mem_getD.1 (by rw [← List.contains_iff_mem]; exact hc : (q : Int) ∈ set.take j)
      rw [List.length_take] at h1
      have e : (set.take j).getD j' 0 = set.getD j' 0 := by simp only [List.getD_eq_getElem?_getD]; rw [List.getElem?_take_of_lt (by omega)]
      rw [e] at h2
      have := ris_inj hr (i := j') (j := j) (by omega) hj (by rw [h2, hq])
      omega
  have hin : ∀ k : Nat, (set.take (j + 1)).contains (k : Int) = ((set.take j).contains (k : Int) || decide (k = q)) := fun k => by
    rw [List.take_succ_eq_append_getElem hj]
    have e : set[j] = (q : Int) := by rw [← hq]; simp [List.getD_eq_getElem?_getD, hj]
    rw [e, Bool.eq_iff_iff, List.contains_iff_mem, List.mem_append, Bool.or_eq_true, List.contains_iff_mem, decide_eq_true_eq, List.mem_singleton]
    constructor
    · rintro (h | h)
      · exact .inl h
      · exact .inr (by omega)
    · rintro (h | h)
      · exact .inl h
      · exact .inr (by omega)
  rw [raise_get hqn, hnot]
  apply List.ext_getElem?
  intro k
  rw [List.getElem?_set, raise_len, raise_at, raise_at]
  by_cases e : q = k
  · subst e
    rw [if_pos rfl, if_pos hqn, if_pos hqn, hin q, decide_eq_true (rfl : q = q), Bool.or_true]
    simp
  · rw [if_neg e, hin k, decide_eq_false (fun h => e h.symm), Bool.or_false]
noncomputable def setR (bids : List (List Int)) (prices : List Int) (n : Nat) : Option (List Int) := fewR (RD bids prices) bids.length n (rowL bids.length (mustB bids prices))
/-- Prices behind some, if there are. -/
noncomputable def stepR (bids : List (List Int)) (prices : List Int) (n : Nat) : Option (List Int) := match setR bids prices n with
  | none => none
  | some set => some (raise prices set (farBy bids prices set n (rowL bids.length (mustB bids prices))))
theorem far_ne {bids : List (List Int)} {prices set : List Int} {n : Nat} (hn : n ≤ 8) (hm8 : bids.length ≤ 8) (h : setR bids prices n = some set) :
    risB (-1) set (n : Int) = true ∧ 1 ≤ (farL bids prices set n (rowL bids.length (mustB bids prices)) (rowL bids.length (mustB bids prices)).length).length := by
  have h1 := few_first hn (ris_of hm8 (mustB bids prices)) h
  refine ⟨h1.1, ?_⟩
  obtain ⟨q, hq⟩ := List.exists_mem_of_length_pos (Nat.lt_of_le_of_lt (Nat.zero_le _) h1.2)
  obtain ⟨hq1, hq2⟩ := List.mem_filter.1 hq
  obtain ⟨i, hi1, hi2, rfl⟩ := (rowL_has _ _ q).1 (by rw [List.contains_iff_mem]; exact hq1)
  exact List.length_pos_of_mem (mem_far.2 ⟨i, hi1, hi2, mem_farOne.2 ⟨by simpa using hq2, .inl rfl⟩⟩)
theorem by_bd {bids : List (List Int)} {prices set : List Int} {n m : Nat} {p : Nat → Bool} {items : Int} (hb : ∀ i, i < bids.length → badBid (n : Int) (bids.getD i []) = false) (hm : mayD prices items = true) (h : 1 ≤ (farL bids prices set n (rowL m p) (rowL m p).length).length) :
    -1000000 ≤ farBy bids prices set n (rowL m p) ∧ farBy bids prices set n (rowL m p) ≤ 3000000 := by
  obtain ⟨i, h1, h2, h3⟩ := mem_far.1 (by_mem h)
  have hd := dG_bd hb hm i
  rcases (mem_farOne.1 h3).2 with h4 | ⟨k, _, _, h4⟩
  · omega
  · have := gD_bd hb hm i k; omega
attribute [local irreducible] Go.Code.wpIn Go.wpListIn Ct Ints Rows Sl At Rw WJ
set_option linter.all false
theorem ok_rstep : CallOK Try.prog 31 := callOK Try.func31 (by kernel_rfl) rfl
set_option maxHeartbeats 4000000 in
theorem step_ct {s : Nat} {rv bv ov pcv wv mv : Value} {res : List Int} {bids : List (List Int)} {ord prices : List Int} {n : Nat} {w : World}
    (hS : St w s rv bv ov pcv wv mv res bids ord prices (rowL bids.length (mustB bids prices)) (gL (RD bids prices) bids.length n)) (hn : n = prices.length) (hn1 : 1 ≤ n) (hn8 : n ≤ 8) (hm8 : bids.length ≤ 8)
    (hb : ∀ i, i < bids.length → badBid (n : Int) (bids.getD i []) = false) (hm : mayD prices (n : Int) = true) :
    Ct Try.prog 31 #[.pointer (some ⟨s, 0, none⟩)] w fun u w' => ∃ b, u = .tuple #[sv b n n, .bool (stepR bids prices n).isSome] ∧ OwnI w' 3 b n ((stepR bids prices n).getD prices) ∧ w.heap.size ≤ b ∧ Ex w w' := by
  subst hn
  have hne : prices ≠ [] := fun e => by rw [e] at hn1; simp at hn1
  have hris := ris_of hm8 (mustB bids prices)
  have hpb := bd_pr hm
  refine enter (N := 56) (vs := [.pointer (some ⟨s, 0, none⟩)]) Try.func31 rfl rfl rfl ?_
  repeat (first | (refine isO ?_; first | refine s_move ?_ | refine s_assign ?_) | (refine isC ?_; refine c_sr ?_) | (refine l_th ?_))
  refine s_nil rfl ?_
  refine s_faN Try.underlying81 rfl ty_ints.n rfl ?_
  refine s_ldA ty_ints rfl hS.at' rfl ?_
  refine s_call ok_Clone rfl (Clone_own pcv prices w hS.pr (by omega) hne) ?_
  rintro u w1 ⟨b, c, rfl, hO1, hb1, hx1⟩
  refine s_call ok_Clip rfl (Clip_own b c prices w1 hO1) ?_
  rintro u w2 ⟨rfl, hO2, hx2⟩
  have hx02 := hx1.trans hx2
  have hS2 := hS.ex hx02
  have hp2 := hS2.pr
  repeat (first | (refine isO ?_; refine s_assign ?_) | (refine isC ?_; refine c_seq ?_) | (refine l_th ?_))
  refine c_drawO (Ex.refl w2) 0 8 [(0, true), (1, true), (2, true), (3, true), (4, true), (5, true), (6, true), (7, true), (8, true), (9, true), (10, true), (11, true), (12, true), (13, false), (14, true), (15, true), (16, true), (17, true), (18, true), (19, true), (20, true)] mixed (by kernel_rfl) ?_
  have hxd := Ex.drew w2
  refine d_move rfl ?_
  refine d_nilc rfl rfl ?_
  refine d_faN rfl Try.underlying81 rfl ty_rows.n rfl ?_
  refine d_ldA rfl ty_rows rfl hS2.at' rfl ?_
  refine d_move rfl ?_
  refine d_nilc rfl rfl ?_
  refine d_faN rfl Try.underlying81 rfl ty_ints.n rfl ?_
  refine d_ldA rfl ty_ints rfl hS2.at' rfl ?_
  refine d_lenIO rfl sl_ints rfl hp2 ?_
  refine d_move rfl ?_
  refine d_nilc rfl rfl ?_
  refine d_faN rfl Try.underlying81 rfl ty_ints.n rfl ?_
  refine d_ldA rfl ty_ints rfl hS2.at' rfl ?_
  refine d_ch rfl ?_
  cases hset : setR bids prices prices.length with
  | none =>
    have hst : stepR bids prices prices.length = none := by unfold stepR; rw [hset]
    refine s_call ok_Few rfl (Few_none (R := RD bids prices) (m := bids.length) (nn := prices.length) hm8 hn8 wv mv _ w2.drew (hS2.wa.ex hxd) (hS2.mu.ex hxd) hris hset) ?_
    rintro u w3 ⟨rfl, hx3⟩
    refine l_nil ⟨rfl, .inr (hxd.trans hx3), ?_⟩
    refine d_move rfl ?_
    refine d_extract rfl rfl rfl ?_
    refine d_extract rfl rfl rfl ?_
    refine d_extract rfl rfl rfl ?_
    refine d_assign rfl ?_
    refine d_assign rfl ?_
    refine d_assign rfl ?_
    refine d_nil ?_
    repeat (first | (refine isO ?_; first | refine s_move ?_ | refine s_assign ?_ | refine s_not rfl ?_) | (refine isC ?_; first | refine c_sr ?_ | refine c_seq ?_ | refine c_ift rfl ?_ | refine c_ret ?_) | (first | refine l_th ?_ | refine th_ret ?_))
    exact ret2 rfl rfl rfl ⟨b, by rw [hst]; rfl, by rw [hst]; exact hO2.ex (hxd.trans hx3), hb1, hx02.trans (hxd.trans hx3)⟩
  | some set =>
    obtain ⟨hrs, hfn⟩ := far_ne hn8 hm8 hset
    have hst : stepR bids prices prices.length = some (raise prices set (farBy bids prices set prices.length (rowL bids.length (mustB bids prices)))) := by unfold stepR; rw [hset]
    refine s_call ok_Few rfl (Few_some (R := RD bids prices) (m := bids.length) (nn := prices.length) hm8 hn8 wv mv _ set w2.drew (hS2.wa.ex hxd) (hS2.mu.ex hxd) hris hset) ?_
    rintro u w3 ⟨v, a, rfl, hv, hvb, hIs, hx3⟩
    subst hv
    refine l_nil ⟨rfl, .inr (hxd.trans hx3), ?_⟩
    refine d_move rfl ?_
    refine d_extract rfl rfl rfl ?_
    refine d_extract rfl rfl rfl ?_
    refine d_extract rfl rfl rfl ?_
    refine d_assign rfl ?_
    refine d_assign rfl ?_
    refine d_assign rfl ?_
    refine d_nil ?_
    have hx03 := hx02.trans (hxd.trans hx3)
    have hS3 := hS2.ex (hxd.trans hx3)
    have hO3 := hO2.ex (hxd.trans hx3)
    repeat (first | (refine isO ?_; first | refine s_move ?_ | refine s_not rfl ?_) | (refine isC ?_; first | refine c_sr ?_ | refine c_th ?_ | refine c_seq ?_ | refine c_iff rfl ?_) | (refine l_th ?_))
    refine s_call ok_far rfl (far_ct _ hS3 hIs rfl hn8 hm8 hb hm hfn) ?_
    rintro u w4 ⟨rfl, hx4⟩
    obtain ⟨x, hx⟩ : ∃ x, x = farBy bids prices set prices.length (rowL bids.length (mustB bids prices)) := ⟨_, rfl⟩
    have hbd := by_bd hb hm hfn
    rw [← hx] at hst hbd ⊢
    have hx04 := hx03.trans hx4
    have hIs4 := hIs.ex hx4
    have hsl := ris_len hrs
    have z1 := hx1.size
    have e0 : raise prices (set.take 0) x = prices := by rw [List.take_zero]; exact raise_nil _ _
    repeat (first | (refine isO ?_; first | refine s_move ?_ | refine s_assign ?_ | (refine isCall ?_; refine s_lenI sl_ints rfl (by assumption) ?_)) | (refine isC ?_; first | refine c_sr ?_ | refine c_seq ?_ | refine c_block ?_) | (refine l_th ?_))
    refine c_loop (γ := Nat) 36020000925942784 (fun j => [(43, .int .i64 (j : Int))]) (fun j W => j ≤ set.length ∧ OwnI W 3 b prices.length (raise prices (set.take j) x) ∧ Ints W (.slice a set.length set.length) set ∧ Ex w W) (fun j => set.length - j) 0 ⟨rfl, trivial⟩ ⟨Nat.zero_le _, by rw [e0]; exact hO3.ex hx4, hIs4, hx04⟩ ?_
    rintro j ρ W ⟨hj, hO, hI, hxW⟩
    repeat (first | (refine isO ?_; (refine isBin ?_; refine s_lss rfl rfl ?_)) | (refine isC ?_; first | refine c_sr ?_ | refine c_seq ?_) | (refine l_th ?_))
    refine c_ifd rfl (fun h => ?_) (fun h => ?_)
    · have hj' : j < set.length := by omega
      obtain ⟨q, hq, hqn⟩ := ris_at hrs hj'
      have hrl := raise_len prices (set.take j) x
      have hsu := raise_succ (x := x) hrs hj' hq hqn
      have hrg : -10000000 ≤ (raise prices (set.take j) x).getD q 0 ∧ (raise prices (set.take j) x).getD q 0 ≤ 10000000 := by
        rw [raise_get hqn]
        have := hpb q
        split <;> omega
      have hOi := hO.ints
      rw [hrl] at hOi
      repeat (first | (refine isO ?_; first | refine s_move ?_ | refine s_assign ?_ | (refine isIA ?_; refine s_ixI sl_ints ty_int rfl rfl rfl (by assumption) (by omega) ?_; intro _)) | (refine isC ?_; first | refine c_sr ?_ | refine c_th ?_ | refine c_seq ?_ | refine c_region ?_ | refine c_block ?_) | (refine l_th ?_))
      refine s_ixI (n := q) sl_ints ty_int rfl rfl (vint hq) hOi (by omega) ?_
      intro pv
      repeat ((refine isO ?_; first | refine s_move ?_ | (refine isBin ?_; refine s_add rfl rfl ⟨by omega, by omega⟩ ?_)))
      refine s_iaA (n := q) sl_ints ty_int rfl (vint hq) hqn ?_
      refine s_stO ty_int rfl rfl hO (by omega) ?_
      intro W1 hO1 hg1
      rw [hsu] at hO1
      have hbl := hO2.lt
      have zd := hxd.size
      repeat (first | (refine isO ?_; first | refine s_move ?_ | (refine isBin ?_; refine s_inc rfl (by omega) ?_)) | (refine isC ?_; refine c_region ?_) | (first | refine l_th ?_ | refine l_nil ?_))
      exact loop_end (j + 1) (by (repeat (first | exact agree_refl _ _ | refine agree_upd rfl ?_ | refine agree_ext rfl ?_ | refine agree_mask rfl ?_))) ⟨vint (by omega), trivial⟩ ⟨hj', hO1, hI.kept hg1 (.inr fun e => by have := hvb b e; omega), hxW.store hg1 (by omega)⟩ (by omega)
    · have hje : j = set.length := by omega
      subst hje
      rw [List.take_of_length_le (Nat.le_refl _)] at hO
      repeat (first | (refine isO ?_; first | refine s_move ?_ | refine s_assign ?_) | (refine isC ?_; first | refine c_sr ?_ | refine c_ret ?_ | refine c_exit ?_) | (refine l_th ?_))
      exact ret2 rfl rfl rfl ⟨b, by rw [hst]; rfl, by rw [hst]; exact hO, hb1, hxW⟩
end Go.Proofs.Ytifbgpkjbciblaa.Sal
end
section
/- rises.may, Step. -/
set_option maxRecDepth 100000
namespace Go.Proofs.Ytifbgpkjbciblaa.Sal
open Go.RowKit
def mayP (res prices : List Int) : Bool := decide (prices.length = res.length) && (List.range prices.length).all fun k => decide (res.getD k 0 ≤ prices.getD k 0) && decide (prices.getD k 0 ≤ 2000000)
theorem range_all_succ (p : Nat → Bool) (k : Nat) : (List.range (k + 1)).all p = ((List.range k).all p && p k) := by simp [List.range_succ]
theorem range_all_bad {p : Nat → Bool} {n k : Nat} (hk : k < n) (h : p k = false) : (List.range n).all p = false := by
  rw [List.all_eq_false]
  exact ⟨k, List.mem_range.2 hk, by rw [h]; simp⟩
theorem mayP_D {res prices : List Int} {bids : List (List Int)} {ord : List Int} (hck : chkM res bids ord = true) (h : mayP res prices = true) : prices.length = res.length ∧ mayD prices res.length = true := by
  unfold mayP at h
  rw [Bool.and_eq_true, decide_eq_true_eq] at h
  obtain ⟨h1, h2⟩ := h
  refine ⟨h1, ?_⟩
  have hv := (chk_parts hck).1
  unfold vecB at hv
  simp only [Bool.and_eq_true, decide_eq_true_eq] at hv
  obtain ⟨⟨hv1, _⟩, hv2⟩ := hv
  unfold inM at hv1
  simp only [Bool.and_eq_true, decide_eq_true_eq] at hv1
  unfold mayD
  rw [decide_eq_true (show (1 : Int) ≤ res.length by omega), decide_eq_true (show (res.length : Int) ≤ 8 by omega), decide_eq_true (show (prices.length : Int) = res.length by omega)]
  simp only [Bool.true_and, Bool.and_true, Bool.not_eq_true']
  rw [List.any_eq_false]
  intro x hx
  obtain ⟨k, hk, rfl⟩ := mem_getD.1 hx
  have h3 := (List.all_eq_true.1 h2) k (List.mem_range.2 hk)
  simp only [Bool.and_eq_true, decide_eq_true_eq] at h3
  have h4 : 0 ≤ res.getD k 0 := by
    have hr : res.getD k 0 ∈ res := mem_getD.2 ⟨k, by omega, rfl⟩
    have := (List.all_eq_true.1 hv2) _ hr
    unfold inM at this
    simp only [Bool.and_eq_true, decide_eq_true_eq] at this
    exact this.1
  unfold badP
  rw [decide_eq_false (by omega), decide_eq_false (by omega)]
  simp
attribute [local irreducible] Go.Code.wpIn Go.wpListIn Ct Ints Rows Sl At Rw WJ
set_option linter.all false
theorem ok_rmay : CallOK Try.prog 29 := callOK Try.func29 (by kernel_rfl) rfl
theorem ok_Step : CallOK Try.prog 13 := callOK Try.func13 (by kernel_rfl) rfl
theorem rmay_ct (rv bv ov pv : Value) (res : List Int) (bids : List (List Int)) (ord prices : List Int) (w : World) (hM : Mk w rv bv ov res bids ord) (hp : Ints w pv prices) :
    Ct Try.prog 29 #[.agg #[rv, bv, ov], pv] w fun u w' => u = .bool (chkM res bids ord && mayP res prices) ∧ Ex w w' := by
  have hlr := hM.r.len
  have hlp := hp.len
  refine enter (N := 37) (vs := [.agg #[rv, bv, ov], pv]) Try.func29 rfl rfl rfl ?_
  repeat ((refine isC ?_; refine c_sr ?_))
  refine s_box (cs := [rv, bv, ov]) rfl rfl ?_
  intro b0 w0 hb0 hZ hx0 hs0
  have hM0 := hM.ex hx0
  repeat (first | (refine isO ?_; refine s_assign ?_) | (refine isC ?_; first | refine c_sr ?_ | refine c_seq ?_) | (refine l_th ?_))
  refine s_ldV Try.underlying25 rfl (by kernel_rfl) rfl hZ ?_
  refine s_call ok_mcheck rfl (mcheck_ct rv bv ov res bids ord w0 hM0) ?_
  rintro u w1 ⟨rfl, hx1⟩
  have hx01 := hx0.trans hx1
  have hZ1 := hZ.ex hx1
  have hr1 := hM0.r.ex hx1
  have hp1 := hp.ex hx01
  refine Or.elim (tfV (chkM res bids ord)) (fun hc => ?_) (fun hc => ?_)
  · refine s_re (v' := .bool true) (vbool hc) ?_
    by_cases hl : (prices.length : Int) = (res.length : Int)
    · repeat (first | (refine isO ?_; first | refine s_move ?_ | (refine isG ?_; refine g_yes rfl rfl ?_) | (refine isBin ?_; refine s_neqF rfl rfl (by omega) ?_) | (refine isCall ?_; refine s_lenI sl_ints rfl (by assumption) ?_) | (refine isPick ?_; refine s_pickf rfl rfl ?_) | (refine isLD ?_; refine s_ldA ty_ints rfl (by assumption) rfl ?_) | refine s_not rfl ?_) | (refine isO ?_; refine s_fa Try.underlying25 rfl ty_ints rfl ?_) | (refine isC ?_; first | refine c_sr ?_ | refine c_th ?_ | refine c_seq ?_ | refine c_iff rfl ?_ | refine c_block ?_) | (refine l_th ?_))
      refine c_loop (γ := Nat) 137437905008 (fun k => [(20, .int .i64 (k : Int))]) (fun k W => k ≤ prices.length ∧ ((List.range k).all fun k => decide (res.getD k 0 ≤ prices.getD k 0) && decide (prices.getD k 0 ≤ 2000000)) = true ∧ Ex w1 W) (fun k => prices.length - k) 0 ⟨rfl, trivial⟩ ⟨Nat.zero_le _, rfl, Ex.refl _⟩ ?_
      rintro k ρ W ⟨hk, hall, hxW⟩
      have hpW := hp1.ex hxW
      have hrW := hr1.ex hxW
      have hZW := hZ1.ex hxW
      have hx0W := hx01.trans hxW
      repeat (first | (refine isO ?_; (refine isBin ?_; refine s_lss rfl rfl ?_)) | (refine isC ?_; first | refine c_sr ?_ | refine c_seq ?_) | (refine l_th ?_))
      refine c_ifd rfl (fun h => ?_) (fun h => ?_)
      · have hk' : k < prices.length := by omega
        have hkr : k < res.length := by omega
        have hst := range_all_succ (fun k => decide (res.getD k 0 ≤ prices.getD k 0) && decide (prices.getD k 0 ≤ 2000000)) k
        by_cases h1 : prices.getD k 0 < res.getD k 0
        · have hbad := range_all_bad (p := fun k => decide (res.getD k 0 ≤ prices.getD k 0) && decide (prices.getD k 0 ≤ 2000000)) hk' (by rw [decide_eq_false (show ¬ res.getD k 0 ≤ prices.getD k 0 by omega)]; rfl)
          repeat (first | (refine isO ?_; first | refine s_move ?_ | refine s_assign ?_ | (refine isG ?_; refine g_no rfl rfl rfl ?_) | (refine isBin ?_; refine s_lssT rfl rfl (by omega) ?_) | (refine isIA ?_; refine s_ixI sl_ints ty_int rfl rfl rfl (by assumption) (by omega) ?_; intro _) | (refine isPick ?_; refine s_pickt rfl rfl ?_) | (refine isLD ?_; refine s_ldA ty_ints rfl (by assumption) rfl ?_)) | (refine isO ?_; refine s_fa Try.underlying25 rfl ty_ints rfl ?_) | (refine isC ?_; first | refine c_sr ?_ | refine c_th ?_ | refine c_seq ?_ | refine c_ift rfl ?_ | refine c_block ?_ | refine c_ret ?_) | (first | refine l_th ?_ | refine th_ret ?_ | refine ib_ret ?_))
          exact ret1 rfl rfl ⟨vbool (by rw [hc]; unfold mayP; rw [hbad]; simp), hx0W⟩
        · by_cases h2 : 2000000 < prices.getD k 0
          · have hbad := range_all_bad (p := fun k => decide (res.getD k 0 ≤ prices.getD k 0) && decide (prices.getD k 0 ≤ 2000000)) hk' (by rw [decide_eq_false (show ¬ prices.getD k 0 ≤ 2000000 by omega), Bool.and_false])
            repeat (first | (refine isO ?_; first | refine s_move ?_ | refine s_assign ?_ | (refine isG ?_; refine g_yes rfl rfl ?_) | (refine isBin ?_; first | refine s_lssF rfl rfl (by omega) ?_ | refine s_gtrT rfl rfl (by omega) ?_) | (refine isIA ?_; refine s_ixI sl_ints ty_int rfl rfl rfl (by assumption) (by omega) ?_; intro _) | (refine isPick ?_; refine s_pickf rfl rfl ?_) | (refine isLD ?_; refine s_ldA ty_ints rfl (by assumption) rfl ?_)) | (refine isO ?_; refine s_fa Try.underlying25 rfl ty_ints rfl ?_) | (refine isC ?_; first | refine c_sr ?_ | refine c_th ?_ | refine c_seq ?_ | refine c_ift rfl ?_ | refine c_block ?_ | refine c_ret ?_) | (first | refine l_th ?_ | refine th_ret ?_ | refine ib_ret ?_))
            exact ret1 rfl rfl ⟨vbool (by rw [hc]; unfold mayP; rw [hbad]; simp), hx0W⟩
          · have hg : (decide (res.getD k 0 ≤ prices.getD k 0) && decide (prices.getD k 0 ≤ 2000000)) = true := by rw [decide_eq_true (show res.getD k 0 ≤ prices.getD k 0 by omega), decide_eq_true (show prices.getD k 0 ≤ 2000000 by omega)]; rfl
            rw [hall, hg] at hst
            repeat (first | (refine isO ?_; first | refine s_move ?_ | refine s_assign ?_ | (refine isG ?_; refine g_yes rfl rfl ?_) | (refine isBin ?_; first | refine s_inc rfl (by omega) ?_ | refine s_lssF rfl rfl (by omega) ?_ | refine s_gtrF rfl rfl (by omega) ?_) | (refine isIA ?_; refine s_ixI sl_ints ty_int rfl rfl rfl (by assumption) (by omega) ?_; intro _) | (refine isPick ?_; refine s_pickf rfl rfl ?_) | (refine isLD ?_; refine s_ldA ty_ints rfl (by assumption) rfl ?_)) | (refine isO ?_; refine s_fa Try.underlying25 rfl ty_ints rfl ?_) | (refine isC ?_; first | refine c_sr ?_ | refine c_th ?_ | refine c_seq ?_ | refine c_region ?_ | refine c_iff rfl ?_ | refine c_block ?_ | refine c_skip ?_) | (refine l_th ?_))
            exact loop_end (k + 1) (by (repeat (first | exact agree_refl _ _ | refine agree_upd rfl ?_ | refine agree_ext rfl ?_ | refine agree_mask rfl ?_))) ⟨vint (by omega), trivial⟩ ⟨hk', hst, hxW⟩ (by omega)
      · have hke : k = prices.length := by omega
        subst hke
        repeat (first | (refine isO ?_; refine s_assign ?_) | (refine isC ?_; first | refine c_sr ?_ | refine c_ret ?_ | refine c_exit ?_) | (refine l_th ?_))
        exact ret1 rfl rfl ⟨vbool (by rw [hc]; unfold mayP; rw [hall, decide_eq_true (by omega)]; rfl), hx0W⟩
    · repeat (first | (refine isO ?_; first | refine s_move ?_ | refine s_assign ?_ | (refine isG ?_; refine g_yes rfl rfl ?_) | (refine isBin ?_; refine s_neqT rfl rfl (by omega) ?_) | (refine isCall ?_; refine s_lenI sl_ints rfl (by assumption) ?_) | (refine isPick ?_; refine s_pickf rfl rfl ?_) | (refine isLD ?_; refine s_ldA ty_ints rfl (by assumption) rfl ?_) | refine s_not rfl ?_) | (refine isO ?_; refine s_fa Try.underlying25 rfl ty_ints rfl ?_) | (refine isC ?_; first | refine c_sr ?_ | refine c_ift rfl ?_ | refine c_ret ?_) | (first | refine l_th ?_ | refine th_ret ?_))
      exact ret1 rfl rfl ⟨vbool (by rw [hc]; unfold mayP; rw [decide_eq_false (by omega)]; rfl), hx01⟩
  · refine s_re (v' := .bool false) (vbool hc) ?_
    repeat (first | (refine isO ?_; first | refine s_move ?_ | refine s_assign ?_ | (refine isG ?_; refine g_no rfl rfl rfl ?_) | (refine isPick ?_; refine s_pickt rfl rfl ?_) | refine s_not rfl ?_) | (refine isC ?_; first | refine c_sr ?_ | refine c_ift rfl ?_ | refine c_ret ?_) | (first | refine l_th ?_ | refine th_ret ?_))
    exact ret1 rfl rfl ⟨vbool (by rw [hc]; rfl), hx01⟩
theorem Step_ok (rv bv ov pv : Value) (res : List Int) (bids : List (List Int)) (ord prices : List Int) (w : World) (hM : Mk w rv bv ov res bids ord) (hp : Ints w pv prices) (hck : chkM res bids ord = true) (hm : mayP res prices = true) :
    Ct Try.prog 13 #[.agg #[rv, bv, ov], pv] w fun u w' => ∃ b, u = .tuple #[sv b res.length res.length, .bool (stepR bids prices res.length).isSome, .int .i64 0] ∧ OwnI w' 3 b res.length ((stepR bids prices res.length).getD prices) ∧ w.heap.size ≤ b ∧ Ex w w' := by
  obtain ⟨hlen, hmd⟩ := mayP_D hck hm
  obtain ⟨hc1, hc2, hc3, hc4, hc5⟩ := chk_parts hck
  obtain ⟨hl1, hl2, hl3⟩ := len_pr hmd
  refine enter (N := 22) (vs := [.agg #[rv, bv, ov], pv]) Try.func13 rfl rfl rfl ?_
  repeat ((refine isC ?_; refine c_sr ?_))
  refine s_box (cs := [rv, bv, ov]) rfl rfl ?_
  intro b0 w0 hb0 hZ hx0 hs0
  repeat (first | (refine isO ?_; refine s_assign ?_) | (refine isC ?_; first | refine c_sr ?_ | refine c_seq ?_) | (refine l_th ?_))
  refine s_ldV Try.underlying25 rfl (by kernel_rfl) rfl hZ ?_
  repeat ((refine isO ?_; refine s_move ?_))
  refine s_call ok_rmay rfl (rmay_ct rv bv ov pv res bids ord prices w0 (hM.ex hx0) (hp.ex hx0)) ?_
  rintro u w1 ⟨rfl, hx1⟩
  refine s_re (v' := .bool true) (vbool (by rw [hck, hm]; rfl)) ?_
  have hx01 := hx0.trans hx1
  repeat (first | (refine isO ?_; refine s_not rfl ?_) | (refine isC ?_; first | refine c_sr ?_ | refine c_th ?_ | refine c_iff rfl ?_) | (refine l_th ?_))
  refine s_ldV Try.underlying25 rfl (by kernel_rfl) rfl (hZ.ex hx1) ?_
  repeat ((refine isO ?_; refine s_move ?_))
  refine s_call ok_at rfl (at_ct rv bv ov pv res bids ord prices w1 (hM.ex hx01) (hp.ex hx01) hck hmd) ?_
  rintro u w2 ⟨s, pcv, wv, mv, rfl, hS, hx2⟩
  refine s_call ok_rstep rfl (step_ct (n := res.length) hS (by omega) (by omega) (by omega) hc3 hc5 hmd) ?_
  rintro u w3 ⟨b, rfl, hO, hb, hx3⟩
  have z2 := hx01.size
  have z3 := hx2.size
  repeat (first | (refine isO ?_; first | refine s_move ?_ | refine s_assign ?_ | refine s_extract rfl rfl ?_) | (refine isC ?_; first | refine c_sr ?_ | refine c_ret ?_) | (refine l_th ?_))
  exact ret3 rfl rfl rfl rfl ⟨b, rfl, hO, by omega, (hx01.trans hx2).trans hx3⟩
theorem Step_bad (rv bv ov pv : Value) (res : List Int) (bids : List (List Int)) (ord prices : List Int) (w : World) (hM : Mk w rv bv ov res bids ord) (hp : Ints w pv prices) (hck : (chkM res bids ord && mayP res prices) = false) :
    Ct Try.prog 13 #[.agg #[rv, bv, ov], pv] w fun u w' => u = .tuple #[.slice none 0 0, .bool false, .int .i64 1] ∧ Ex w w' := by
  refine enter (N := 22) (vs := [.agg #[rv, bv, ov], pv]) Try.func13 rfl rfl rfl ?_
  repeat ((refine isC ?_; refine c_sr ?_))
  refine s_box (cs := [rv, bv, ov]) rfl rfl ?_
  intro b0 w0 hb0 hZ hx0 hs0
  repeat (first | (refine isO ?_; refine s_assign ?_) | (refine isC ?_; first | refine c_sr ?_ | refine c_seq ?_) | (refine l_th ?_))
  refine s_ldV Try.underlying25 rfl (by kernel_rfl) rfl hZ ?_
  repeat ((refine isO ?_; refine s_move ?_))
  refine s_call ok_rmay rfl (rmay_ct rv bv ov pv res bids ord prices w0 (hM.ex hx0) (hp.ex hx0)) ?_
  rintro u w1 ⟨rfl, hx1⟩
  refine s_re (v' := .bool false) (vbool hck) ?_
  repeat (first | (refine isO ?_; first | refine s_assign ?_ | refine s_not rfl ?_) | (refine isC ?_; first | refine c_sr ?_ | refine c_ift rfl ?_ | refine c_ret ?_) | (first | refine l_th ?_ | refine th_ret ?_))
  exact ret3 rfl rfl rfl rfl ⟨rfl, hx0.trans hx1⟩
end Go.Proofs.Ytifbgpkjbciblaa.Sal
end
section
/- rises.steps, Least: the walk, given the run. -/
set_option maxRecDepth 100000
namespace Go.Proofs.Ytifbgpkjbciblaa.Sal
open Go.RowKit
/-- The prices that are come to, one behind the other. -/
structure RunS (res : List Int) (bids : List (List Int)) (L : List (List Int)) : Prop where
  pos : 0 < L.length
  fst : L.getD 0 [] = res
  nxt : ∀ i, i + 1 < L.length → stepR bids (L.getD i []) res.length = some (L.getD (i + 1) [])
  lst : stepR bids (L.getD (L.length - 1) []) res.length = none
  ok : ∀ i, i < L.length → mayP res (L.getD i []) = true
attribute [local irreducible] Go.Code.wpIn Go.wpListIn Ct Ints Rows Sl At Rw WJ
set_option linter.all false
theorem ok_rsteps : CallOK Try.prog 21 := callOK Try.func21 (by kernel_rfl) rfl
theorem ok_rsteps1 : CallOK Try.prog 45 := callOK Try.func45 (by kernel_rfl) rfl
theorem ok_rLeast : CallOK Try.prog 9 := callOK Try.func9 (by kernel_rfl) rfl
theorem grx {w W W' : World} {bo : Nat} (hx : Ex w W) (hb : w.heap.size ≤ bo) (hg : W.grownBy W' (some bo)) : Ex w W' := hx.store hg hb
set_option maxHeartbeats 4000000 in
theorem steps_it {rv bv ov : Value} {res : List Int} {bids : List (List Int)} {ord : List Int} {L : List (List Int)} {w w0 : World} {c bo : Nat} (hM : Mk w rv bv ov res bids ord) (hck : chkM res bids ord = true) (hR : RunS res bids L)
    (hx : Ex w w0) (hbo : w.heap.size ≤ bo) (hA : At w0 c 25 [rv, bv, ov]) (hcb : c ≠ bo) (hlt : bo < w0.heap.size) : IterM Try.prog 45 [.pointer (some ⟨c, 0, none⟩)] L bo w0 := by
  intro l I W0 hxW0 hI h0 hY
  obtain ⟨hc1, hc2, hc3, hc4, hc5⟩ := chk_parts hck
  have hL0 := mayP_D hck (hR.ok 0 hR.pos)
  have hrl := len_pr hL0.2
  obtain ⟨hr1, hr2, _⟩ := hrl
  have hxw := hx.trans hxW0
  have hA0 := hA.ex hxW0
  have z0 := hxW0.size
  have hM0 := hM.ex hxw
  refine enter (N := 21) (vs := [.func (.yield l) #[] #[], .pointer (some ⟨c, 0, none⟩)]) Try.func45 rfl rfl rfl ?_
  repeat ((refine isC ?_; refine c_sr ?_))
  refine s_fa Try.underlying25 rfl ty_ints rfl ?_
  refine s_ldA ty_ints rfl hA0 rfl ?_
  refine s_call ok_Clone rfl (Clone_ct rv res W0 hM0.r (by omega)) ?_
  rintro pv w1 ⟨hL1, hx1⟩
  have hI1 : Ints w1 pv (L.getD 0 []) := by rw [hR.fst]; exact hL1.ints (by omega)
  have hpo : ∀ b, pv.ownBlock = some b → bo < b := fun b hb => by have := hL1.2 b hb; omega
  repeat (first | (refine isO ?_; refine s_assign ?_) | (refine isC ?_; refine c_block ?_) | (refine l_th ?_))
  refine c_loop (γ := Nat × Value × Bool) 2096920 (fun q => [(3, q.2.1), (4, .bool q.2.2)]) (fun q W => q.1 ≤ L.length ∧ q.2.2 = decide (q.1 < L.length) ∧ (q.1 < L.length → Ints W q.2.1 (L.getD q.1 []) ∧ ∀ b, q.2.1.ownBlock = some b → bo < b) ∧ W0.grownBy W (some bo) ∧ I q.1 W) (fun q => L.length - q.1) (0, pv, true) ⟨rfl, rfl, trivial⟩
    ⟨Nat.zero_le _, (decide_eq_true hR.pos).symm, fun _ => ⟨hI1, hpo⟩, gr_ex hx1, hI _ _ _ h0 hx1⟩ ?_
  rintro ⟨i, v, b⟩ ρ W ⟨hi, hb, hv, hgW, hIW⟩
  have hi : i ≤ L.length := hi
  have hIW : I i W := hIW
  have hb : b = decide (i < L.length) := hb
  cases b with
  | false =>
    have hie : i = L.length := by have := of_decide_eq_false hb.symm; omega
    subst hie
    repeat (first | (refine isO ?_; first | refine s_move ?_ | (refine isG ?_; refine g_no rfl rfl rfl ?_) | (refine isPick ?_; refine s_pickf rfl rfl ?_)) | (refine isC ?_; first | refine c_sr ?_ | refine c_seq ?_ | refine c_iff rfl ?_ | refine c_exit ?_) | (first | refine l_th ?_ | refine ib_exit ?_ | refine th_exit ?_))
    exact end0 rfl ⟨hgW, hIW⟩
  | true =>
    have hil : i < L.length := of_decide_eq_true hb.symm
    obtain ⟨hIv, hvo⟩ : Ints W v (L.getD i []) ∧ ∀ b, v.ownBlock = some b → bo < b := hv hil
    have hgW : W0.grownBy W (some bo) := hgW
    have hYi := hY i (L.getD i []) W v (by rw [List.getD_eq_getElem?_getD, List.getElem?_eq_getElem hil]; rfl) hgW hIv hvo hIW
    repeat (first | (refine isO ?_; first | refine s_move ?_ | (refine isG ?_; refine g_yes rfl rfl ?_)) | (refine isC ?_; first | refine c_sr ?_ | refine c_seq ?_))
    refine s_yield (vs := [v]) rfl rfl hYi ?_
    rintro e W1 ⟨rfl, hg1, hI1'⟩
    refine ⟨_, rfl, ?_⟩
    have hgW1 := gr_trans hgW hg1
    have hxW1 : Ex w W1 := grx hxw hbo hgW1
    have hIv1 := hIv.kept hg1 (.inr fun e => by have := hvo bo e; omega)
    have hA1 := hA0.grown hgW1 (fun e => hcb (Option.some.inj e).symm)
    have hMW := hM.ex hxW1
    have hmp := mayP_D hck (hR.ok i hil)
    obtain ⟨hml, hmd⟩ := hmp
    repeat (first | (refine isO ?_; (refine isPick ?_; refine s_pickt rfl rfl ?_)) | (refine isC ?_; first | refine c_th ?_ | refine c_region ?_ | refine c_ift rfl ?_ | refine c_block ?_) | (refine l_th ?_))
    refine s_ldV Try.underlying25 rfl (by kernel_rfl) rfl hA1 ?_
    repeat ((refine isO ?_; refine s_move ?_))
    refine s_call ok_at rfl (at_ct rv bv ov v res bids ord (L.getD i []) W1 hMW hIv1 hck hmd) ?_
    rintro u W2 ⟨s, pcv, wv, mv, rfl, hS, hx2⟩
    refine s_call ok_rstep rfl (step_ct (n := res.length) hS (by omega) (by omega) (by omega) hc3 hc5 hmd) ?_
    rintro u W3 ⟨b', rfl, hO, hb', hx3⟩
    have hx13 := hx2.trans hx3
    have z2 := hx2.size
    have z4 := hgW.size
    have z5 := hg1.size
    have hO' := hO.ints
    by_cases hlast : i + 1 < L.length
    · have hst := hR.nxt i hlast
      rw [hst] at hO' ⊢
      have hln := (mayP_D hck (hR.ok (i + 1) hlast)).1
      have e7 : (Option.getD (some (L.getD (i + 1) [])) (L.getD i [])).length = res.length := hln
      rw [e7] at hO'
      repeat (first | (refine isO ?_; first | refine s_move ?_ | refine s_assign ?_ | refine s_extract rfl rfl ?_) | (first | refine th_norm ?_ | refine ib_norm ?_ | refine l_nil ?_))
      refine loop_end (i + 1, sv b' res.length res.length, true) (by (repeat (first | exact agree_refl _ _ | refine agree_upd rfl ?_ | refine agree_ext rfl ?_ | refine agree_mask rfl ?_))) ⟨rfl, rfl, trivial⟩ ⟨hil, (decide_eq_true hlast).symm, fun _ => ⟨hO', fun b hb => ?_⟩, gr_trans hgW1 (gr_trans (gr_ex hx13) (gr_refl _ _)), hI _ _ _ hI1' hx13⟩ (by show L.length - (i + 1) < L.length - i; omega)
      have := Option.some.inj hb
      simp at this
      omega
    · have hst := hR.lst
      have hie : i = L.length - 1 := by omega
      rw [← hie] at hst
      rw [hst]
      repeat (first | (refine isO ?_; first | refine s_move ?_ | refine s_assign ?_ | refine s_extract rfl rfl ?_) | (first | refine th_norm ?_ | refine ib_norm ?_ | refine l_nil ?_))
      refine loop_end (i + 1, sv b' res.length res.length, false) (by (repeat (first | exact agree_refl _ _ | refine agree_upd rfl ?_ | refine agree_ext rfl ?_ | refine agree_mask rfl ?_))) ⟨rfl, rfl, trivial⟩ ⟨hil, (decide_eq_false hlast).symm, fun hh => absurd hh hlast, gr_trans hgW1 (gr_trans (gr_ex hx13) (gr_refl _ _)), hI _ _ _ hI1' hx13⟩ (by show L.length - (i + 1) < L.length - i; omega)
theorem ret_c2m {P : Program} {fn : Func} {w : World} {R : Value → World → Prop} {N : Nat} {σ : Nat → Value} {D a d : Nat} {ta : TypeId} {pa : Addr} {va vd : Value} (hres : fn.results = #[.cell a ta, .tmp d]) (ha : ev N σ (.tmp a) = .pointer (some pa)) (hd : ev N σ (.tmp d) = vd) (ea : Ty1 P ta)
    (hK : w.heap[D]? = some (.deferred (some []))) (hc : (w.putObj D (.deferred none)).cell? pa = some va) (hR : R (.tuple #[va, vd]) (w.putObj D (.deferred none))) : Post P fn R .ret (mk N σ [mark D]) w := by
  have key : LeavesInM (FW none) 0 P fn (mk N σ [mark D]).tmps (RE R) [mark D] .returning w := by
    refine ⟨by simp, .inl ⟨D, _, rfl, run_takeDeferred hK, leave_nil (v := .tuple #[va, vd]) ?_ hR⟩⟩
    have := results_cell2 (P := P) (tmps := (mk N σ [mark D]).tmps) hres (getD_mk' ha) ea hc
    rwa [getD_mk' hd] at this
  exact key
theorem ret_c2 {P : Program} {fn : Func} {w : World} {R : Value → World → Prop} {N : Nat} {σ : Nat → Value} {a d : Nat} {ta : TypeId} {pa : Addr} {va vd : Value} (hres : fn.results = #[.cell a ta, .tmp d]) (ha : ev N σ (.tmp a) = .pointer (some pa)) (hd : ev N σ (.tmp d) = vd) (ea : Ty1 P ta)
    (hc : w.cell? pa = some va) (hR : R (.tuple #[va, vd]) w) : Post P fn R .ret (mk N σ []) w := by
  have key : LeavesInM (FW none) 0 P fn (mk N σ []).tmps (RE R) [] .returning w := by
    refine leave_nil (v := .tuple #[va, vd]) ?_ hR
    have := results_cell2 (P := P) (tmps := (mk N σ []).tmps) hres (getD_mk' ha) ea hc
    rwa [getD_mk' hd] at this
  exact key
theorem rsteps_ct (rv bv ov : Value) (w : World) : Ct Try.prog 21 #[.agg #[rv, bv, ov]] w fun u w' => ∃ c, u = .func (.func 45) #[] [.pointer (some ⟨c, 0, none⟩)].toArray ∧ w.heap.size ≤ c ∧ At w' c 25 [rv, bv, ov] ∧ Ex w w' := by
  refine enter (N := 4) (vs := [.agg #[rv, bv, ov]]) Try.func21 rfl rfl rfl ?_
  repeat ((refine isC ?_; refine c_sr ?_))
  refine s_box (cs := [rv, bv, ov]) rfl rfl ?_
  intro c w1 hc hA hx hs
  repeat (first | (refine isO ?_; refine s_assign ?_) | (refine isC ?_; refine c_sr ?_) | (refine l_th ?_))
  refine s_mkfn (vs := [.pointer (some ⟨c, 0, none⟩)]) rfl ?_
  repeat (first | (refine isO ?_; refine s_assign ?_) | (refine isC ?_; refine c_ret ?_) | (refine l_th ?_))
  exact ret1 rfl rfl ⟨c, rfl, by omega, hA, hx⟩
/-- Where the last of what was come to is kept. -/
def LeI (bo : Nat) (L : List (List Int)) (i : Nat) (W : World) : Prop := ∃ v, At W bo 22 [v] ∧ (0 < i → Ints W v (L.getD (i - 1) []) ∧ ∀ b, v.ownBlock = some b → bo < b)
theorem Least_bad (rv bv ov : Value) (res : List Int) (bids : List (List Int)) (ord : List Int) (w : World) (hM : Mk w rv bv ov res bids ord) (hck : chkM res bids ord = false) :
    Ct Try.prog 9 #[.agg #[rv, bv, ov]] w fun u w' => u = .tuple #[.slice none 0 0, .int .i64 1] ∧ Ex w w' := by
  refine Exists.elim in_ints' fun ti hti => ?_
  refine enter (N := 15) (vs := [.agg #[rv, bv, ov]]) Try.func9 rfl rfl rfl ?_
  repeat ((refine isC ?_; refine c_sr ?_))
  refine s_box (cs := [rv, bv, ov]) rfl rfl ?_
  intro c w1 hc hZ hx1 hs1
  refine s_alloc (cs := [.slice none 0 0]) hti.1 hti.2.1 rfl ?_
  intro bo w2 hbo hB hx2 hs2
  have hx02 := hx1.trans hx2
  have hZ2 := hZ.ex hx2
  repeat (first | (refine isO ?_; refine s_assign ?_) | (refine isC ?_; first | refine c_sr ?_ | refine c_seq ?_) | (refine l_th ?_))
  refine s_ldV Try.underlying25 rfl (by kernel_rfl) rfl hZ2 ?_
  refine s_call ok_mcheck rfl (mcheck_ct rv bv ov res bids ord w2 (hM.ex hx02)) ?_
  rintro u w3 ⟨rfl, hx3⟩
  refine s_re (v' := .bool false) (vbool hck) ?_
  have z1 := hx1.size
  repeat (first | (refine isO ?_; refine s_not rfl ?_) | (refine isC ?_; first | refine c_sr ?_ | refine c_ift rfl ?_) | (refine l_th ?_))
  refine s_stA (n := 0) (u := .slice none 0 0) ty_ints rfl rfl rfl (hB.ex hx3) (by simp) ?_
  intro w4 hB4 hg4
  repeat (first | (refine isO ?_; refine s_assign ?_) | (refine isC ?_; refine c_ret ?_) | (first | refine l_th ?_ | refine th_ret ?_))
  exact ret_c2 (pa := ⟨bo, 0, none⟩) rfl rfl rfl ty_ints (by rw [hB4.cell]; rfl) ⟨rfl, (hx02.trans hx3).store hg4 (by omega)⟩
set_option maxHeartbeats 4000000 in
theorem Least_ok (rv bv ov : Value) (res : List Int) (bids : List (List Int)) (ord : List Int) (L : List (List Int)) (w : World) (hM : Mk w rv bv ov res bids ord) (hck : chkM res bids ord = true) (hR : RunS res bids L) :
    Ct Try.prog 9 #[.agg #[rv, bv, ov]] w fun u w' => ∃ b, u = .tuple #[sv b res.length res.length, .int .i64 0] ∧ OwnI w' 3 b res.length (L.getD (L.length - 1) []) ∧ w.heap.size ≤ b ∧ Ex w w' := by
  have hpos := hR.pos
  obtain ⟨hel, hed⟩ := mayP_D hck (hR.ok (L.length - 1) (by omega))
  obtain ⟨hr1, hr2, _⟩ := len_pr hed
  refine Exists.elim in_ints' fun ti hti => ?_
  refine enter (N := 15) (vs := [.agg #[rv, bv, ov]]) Try.func9 rfl rfl rfl ?_
  repeat ((refine isC ?_; refine c_sr ?_))
  refine s_box (cs := [rv, bv, ov]) rfl rfl ?_
  intro c w1 hc hZ hx1 hs1
  refine s_alloc (cs := [.slice none 0 0]) hti.1 hti.2.1 rfl ?_
  intro bo w2 hbo hB hx2 hs2
  have hx02 := hx1.trans hx2
  have hZ2 := hZ.ex hx2
  repeat (first | (refine isO ?_; refine s_assign ?_) | (refine isC ?_; first | refine c_sr ?_ | refine c_seq ?_) | (refine l_th ?_))
  refine s_ldV Try.underlying25 rfl (by kernel_rfl) rfl hZ2 ?_
  refine s_call ok_mcheck rfl (mcheck_ct rv bv ov res bids ord w2 (hM.ex hx02)) ?_
  rintro u w3 ⟨rfl, hx3⟩
  refine s_re (v' := .bool true) (vbool hck) ?_
  have hx03 := hx02.trans hx3
  have z1 := hx1.size
  have z2 := hx2.size
  have z3 := hx3.size
  repeat (first | (refine isO ?_; refine s_not rfl ?_) | (refine isC ?_; first | refine c_sr ?_ | refine c_th ?_ | refine c_seq ?_ | refine c_iff rfl ?_) | (refine l_th ?_))
  refine s_ldV Try.underlying25 rfl (by kernel_rfl) rfl (hZ2.ex hx3) ?_
  refine s_call ok_rsteps rfl (rsteps_ct rv bv ov w3) ?_
  rintro u w4 ⟨c2, rfl, hc2, hA4, hx4⟩
  have hB4 := hB.ex (hx3.trans hx4)
  have lB := hB.lt
  have z4 := hx4.size
  have hx04 := hx03.trans hx4
  repeat (first | (refine isC ?_; refine c_block ?_) | (refine l_th ?_))
  refine c_rangeM (bo := bo) rfl ok_rsteps1 (steps_it hM hck hR hx04 (by omega) hA4 (by omega) (by omega)) (Ex.refl w4) (by omega) rfl (LeI bo L) ?_ ?_ ⟨_, hB4, fun h => absurd h (by omega)⟩ (fun v σ => upd (updl [(10, v)] σ) 4 v) ?_ ?_ ?_
  · rintro i W W' ⟨v, hA, hv⟩ hg
    have hx := Ex.of_grown hg
    exact ⟨v, hA.ex hx, fun h => ⟨(hv h).1.ex hx, (hv h).2⟩⟩
  · rintro i W k o o' ⟨v, hA, hv⟩ ho hc
    have hk := KC.put (o' := o') ho hc
    exact ⟨v, hk.at hA, fun h => ⟨hk.ints (hv h).1, (hv h).2⟩⟩
  · intro l v W K hK
    repeat (first | (refine isO ?_; refine s_assign ?_) | (refine isC ?_; refine c_region ?_) | (refine l_th ?_))
    exact hK
  · rintro l i x v W hLi hgW hIv hvo ⟨v0, hA, _⟩
    obtain ⟨va, vc, hvf⟩ := hIv.form
    subst hvf
    repeat (first | (refine isO ?_; refine s_move ?_) | (refine isC ?_; first | refine c_region ?_ | refine c_block ?_))
    refine s_stA (n := 0) (u := .slice va x.length vc) ty_ints rfl rfl rfl hA (by simp) ?_
    intro W1 hA1 hg1
    repeat ((first | refine ib_norm ?_ | refine l_nil ?_))
    refine ⟨hg1, _, hA1, fun _ => ⟨?_, hvo⟩⟩
    have e : L.getD (i + 1 - 1) [] = x := by rw [Nat.add_sub_cancel, List.getD_eq_getElem?_getD, hLi]; rfl
    rw [e]
    exact hIv.kept hg1 (.inr fun e => by have := hvo bo e; omega)
  · rintro D W hD hgW ⟨v, hA, hv⟩ hK
    obtain ⟨hIv, hvo⟩ := hv hpos
    have hne : L.getD (L.length - 1) [] ≠ [] := fun e => by rw [e] at hel; simp at hel; omega
    have hxW : Ex w W := grx hx04 (by omega) hgW
    have zW := hgW.size
    repeat (first | (refine isO ?_; (refine isLD ?_; refine s_ldA ty_ints rfl (by assumption) rfl ?_)) | (refine isC ?_; refine c_sr ?_))
    refine s_call ok_Clone rfl (Clone_own v _ W hIv (by omega) hne) ?_
    rintro u W1 ⟨b, cc, rfl, hO1, hb1, hx1W⟩
    refine s_call ok_Clip rfl (Clip_own b cc _ W1 hO1) ?_
    rintro u W2 ⟨rfl, hO2, hx2W⟩
    have hx12 := hx1W.trans hx2W
    refine s_stA (n := 0) (u := sv b (L.getD (L.length - 1) []).length (L.getD (L.length - 1) []).length) ty_ints rfl rfl rfl (hA.ex hx12) (by simp) ?_
    intro W3 hA3 hg3
    have hK3 := mark_gr (mark_ex hK hx12) (hA.ex hx12) hg3
    have hkm := mark_kc hK3
    have hxW3 : Ex w W3 := (hxW.trans hx12).store hg3 (by omega)
    have hO3 := hO2.grown hg3 (fun e => by cases e; omega)
    rw [hel] at hO3 hA3
    have hO4 : OwnI (W3.putObj D (.deferred none)) 3 b res.length (L.getD (L.length - 1) []) := by
      obtain ⟨sp, h1, h2, h3⟩ := hO3
      exact ⟨sp, hkm.at h1, h2, h3⟩
    repeat (first | (refine isO ?_; refine s_assign ?_) | (refine isC ?_; refine c_ret ?_) | (refine l_th ?_))
    exact ret_c2m (pa := ⟨bo, 0, none⟩) rfl rfl rfl ty_ints hK3 (by rw [(hkm.at hA3).cell]; rfl) ⟨b, rfl, hO4, by omega, mark_out hxW3 (by omega)⟩
end Go.Proofs.Ytifbgpkjbciblaa.Sal
end
section
/- Plain: prices that rise: none is too high. -/
set_option maxRecDepth 100000
namespace Go.Proofs.Ytifbgpkjbciblaa.Sal
set_option linter.all false
/-- Does one that must have something want nothing but these? -/
def needB (bids : List (List Int)) (p : List Int) (n : Nat) (l : List Int) (i : Nat) : Bool := mustB bids p i && wantB (RD bids p) n l i
def compP (bids : List (List Int)) (p : List Int) (n : Nat) : Prop := ∀ l, risB (-1) l (n : Int) = true → cnt (fun i => needB bids p n l i) bids.length ≤ l.length
def LensB (bids : List (List Int)) (n : Nat) : Prop := ∀ i, i < bids.length → lenB bids i = 0 ∨ lenB bids i = n
theorem gD_le {bids : List (List Int)} {p : List Int} {i k : Nat} (h : k < lenB bids i) : gD bids p i k ≤ dG bids p i := by rw [dG_eq]; exact gmx_all _ _ _ h
theorem must_iff {bids : List (List Int)} {p : List Int} {i : Nat} : mustB bids p i = true ↔ 0 < dG bids p i := by
  have := dG_ge bids p i
  unfold mustB
  simp; omega
theorem need_of {bids : List (List Int)} {p : List Int} {n i k1 : Nat} {l : List Int} (hl : lenB bids i = n) (h1 : k1 < n) (h2 : 0 < gD bids p i k1) (h3 : ∀ k, k < n → l.contains (k : Int) = false → gD bids p i k < gD bids p i k1) : needB bids p n l i = true := by
  have hle := gD_le (p := p) (show k1 < lenB bids i by omega)
  unfold needB
  rw [Bool.and_eq_true, must_iff, wantB_iff]
  refine ⟨by omega, fun k hk hR => ?_⟩
  cases hc : l.contains (k : Int) with
  | true => rfl
  | false =>
    exfalso
    have := h3 k hk hc
    unfold RD at hR
    simp only [Bool.and_eq_true, decide_eq_true_eq] at hR
    omega
theorem need_out {bids : List (List Int)} {p : List Int} {n i k : Nat} {l : List Int} (h : needB bids p n l i = true) (hl : lenB bids i = n) (hk : k < n) (hc : l.contains (k : Int) = false) : gD bids p i k < dG bids p i := by
  unfold needB at h
  rw [Bool.and_eq_true, wantB_iff] at h
  have hle := gD_le (p := p) (show k < lenB bids i by omega)
  rcases Int.lt_or_eq_of_le hle with h1 | h1
  · exact h1
  · exfalso
    have := h.2 k hk (by unfold RD; rw [h.1, decide_eq_true (show k < lenB bids i by omega), decide_eq_true h1]; rfl)
    rw [this] at hc; cases hc
theorem must_cnt {bids : List (List Int)} {p : List Int} {n : Nat} (hm8 : bids.length ≤ 8) (l : List Int) : withN (RD bids p) n (rowL bids.length (mustB bids p)) l = cnt (fun i => needB bids p n l i) bids.length := by
  rw [withN_cnt (ris_of hm8 _)]
  refine cnt_congr _ fun i hi => ?_
  unfold needB
  congr 1
  rw [Bool.eq_iff_iff, rowL_has]
  constructor
  · rintro ⟨k, h1, h2, h3⟩
    obtain rfl : i = k := by omega
    exact h2
  · intro h; exact ⟨i, hi, h, rfl⟩
theorem comp_iff {bids : List (List Int)} {p : List Int} {n : Nat} (hn : n ≤ 8) (hm8 : bids.length ≤ 8) : setR bids p n = none ↔ compP bids p n := by
  unfold setR
  rw [fewR_eq hn (ris_of hm8 _)]
  constructor
  · intro h l hl
    have := few_all h hl
    unfold fewB at this
    rw [must_cnt hm8] at this
    have := of_decide_eq_false this
    omega
  · intro h
    cases hf : fewTo (RD bids p) n (rowL bids.length (mustB bids p)) (n + 1) with
    | none => rfl
    | some l =>
      exfalso
      obtain ⟨h1, h2, _⟩ := fewTo_first hf
      unfold fewB at h2
      rw [must_cnt hm8] at h2
      have := of_decide_eq_true h2
      have := h l h1
      omega
theorem len_filter_split (l : List Int) (b : Int → Bool) : (l.filter b).length + (l.filter fun q => !b q).length = l.length := by
  induction l with
  | nil => rfl
  | cons a l ih => cases h : b a <;> simp [h] <;> omega
/-- Of any part of the set that is too few more of those within want any than it has. -/
theorem set_part {bids : List (List Int)} {p : List Int} {n : Nat} (hn : n ≤ 8) (hm8 : bids.length ≤ 8) {l : List Int} (h : setR bids p n = some l) (b : Int → Bool) (hb : ∃ q ∈ l, b q = true) :
    (l.filter b).length < cnt (fun i => needB bids p n l i && !needB bids p n (l.filter fun q => !b q) i) bids.length := by
  unfold setR at h
  rw [fewR_eq hn (ris_of hm8 _)] at h
  obtain ⟨h1, h2, h3, _⟩ := fewTo_first h
  have hsp := len_filter_split l b
  have hpos : 0 < (l.filter b).length := by
    obtain ⟨q, hq, hbq⟩ := hb
    exact List.length_pos_of_mem (List.mem_filter.2 ⟨hq, hbq⟩)
  have h4 := h3 (l.filter fun q => !b q) (ris_sub List.filter_sublist (-1) h1) (by omega)
  unfold fewB at h2 h4
  rw [must_cnt hm8] at h2 h4
  have h2' := of_decide_eq_true h2
  have h4' := of_decide_eq_false h4
  have hs := cnt_split (fun i => needB bids p n l i) (fun i => needB bids p n (l.filter fun q => !b q) i) bids.length
  have hle := cnt_le (s := fun i => needB bids p n l i && needB bids p n (l.filter fun q => !b q) i) (t := fun i => needB bids p n (l.filter fun q => !b q) i) bids.length (fun i _ hh => by simp only [Bool.and_eq_true] at hh; exact hh.2)
  omega
/-- Such a one wants something of the part. -/
theorem part_want {bids : List (List Int)} {p : List Int} {n i : Nat} {l : List Int} {b : Int → Bool} (h : (needB bids p n l i && !needB bids p n (l.filter fun q => !b q) i) = true) :
    needB bids p n l i = true ∧ ∃ k, k < n ∧ b (k : Int) = true ∧ l.contains (k : Int) = true ∧ gD bids p i k = dG bids p i := by
  rw [Bool.and_eq_true, Bool.not_eq_true'] at h
  obtain ⟨h1, h2⟩ := h
  refine ⟨h1, ?_⟩
  have h1' := h1
  unfold needB at h1' h2
  rw [Bool.and_eq_true] at h1'
  rw [h1'.1, Bool.true_and] at h2
  have : ¬ ∀ k, k < n → RD bids p i k = true → (l.filter fun q => !b q).contains (k : Int) = true := fun hh => by rw [wantB_iff.2 hh] at h2; cases h2
  simp only [Classical.not_forall] at this
  obtain ⟨k, hk, hR, hc⟩ := this
  have hlc := wantB_iff.1 h1'.2 k hk hR
  refine ⟨k, hk, ?_, hlc, ?_⟩
  · cases hb : b (k : Int) with
    | true => rfl
    | false =>
      exfalso; apply hc
      rw [List.contains_iff_mem, List.mem_filter]
      exact ⟨by rw [← List.contains_iff_mem]; exact hlc, by rw [hb]; rfl⟩
  · unfold RD at hR
    simp only [Bool.and_eq_true, decide_eq_true_eq] at hR
    exact hR.2.2
theorem far_mem_dG {bids : List (List Int)} {p : List Int} {n i : Nat} {l : List Int} (hi : i < bids.length) (h : needB bids p n l i = true) : dG bids p i ∈ farL bids p l n (rowL bids.length (mustB bids p)) (rowL bids.length (mustB bids p)).length := by
  unfold needB at h
  rw [Bool.and_eq_true] at h
  exact mem_far.2 ⟨i, hi, h.1, mem_farOne.2 ⟨h.2, .inl rfl⟩⟩
theorem far_mem_out {bids : List (List Int)} {p : List Int} {n i k : Nat} {l : List Int} (hi : i < bids.length) (h : needB bids p n l i = true) (hk : k < n) (hc : l.contains (k : Int) = false) : dG bids p i - gD bids p i k ∈ farL bids p l n (rowL bids.length (mustB bids p)) (rowL bids.length (mustB bids p)).length := by
  unfold needB at h
  rw [Bool.and_eq_true] at h
  exact mem_far.2 ⟨i, hi, h.1, mem_farOne.2 ⟨h.2, .inr ⟨k, hk, hc, rfl⟩⟩⟩
theorem need_len {bids : List (List Int)} {p : List Int} {n i : Nat} {l : List Int} (hL : LensB bids n) (hi : i < bids.length) (h : needB bids p n l i = true) : lenB bids i = n := by
  unfold needB at h
  rw [Bool.and_eq_true] at h
  exact (must_wants (hL i hi) h.1).1
theorem by_pos {bids : List (List Int)} {p : List Int} {n : Nat} {l : List Int} (hL : LensB bids n) (h : 1 ≤ (farL bids p l n (rowL bids.length (mustB bids p)) (rowL bids.length (mustB bids p)).length).length) : 1 ≤ farBy bids p l n (rowL bids.length (mustB bids p)) := by
  obtain ⟨i, hi, hmu, hx⟩ := mem_far.1 (by_mem h)
  obtain ⟨hw, hx⟩ := mem_farOne.1 hx
  have hd := must_iff.1 hmu
  rcases hx with hx | ⟨k, hk, hc, hx⟩
  · omega
  · have := need_out (k := k) (l := l) (by unfold needB; rw [hmu, hw]; rfl) (must_wants (hL i hi) hmu).1 hk hc
    omega
/-- No step goes beyond prices at which all that must can. -/
theorem no_over {bids : List (List Int)} {p q : List Int} {n : Nat} (hn : n ≤ 8) (hm8 : bids.length ≤ 8) (hL : LensB bids n) (hp : p.length = n) (hpq : ∀ k, k < n → p.getD k 0 ≤ q.getD k 0) (hq : compP bids q n) {l : List Int} (h : setR bids p n = some l) :
    ∀ k, k < n → (raise p l (farBy bids p l n (rowL bids.length (mustB bids p)))).getD k 0 ≤ q.getD k 0 := by
  intro k hk
  rw [raise_get (by omega)]
  cases hc : l.contains (k : Int) with
  | false =>
    have := hpq k hk
    simp; exact this
  | true =>
    simp only [if_true]
    apply Classical.byContradiction
    intro hlt
    obtain ⟨hr, hfn⟩ := far_ne hn hm8 h
    obtain ⟨d, hd⟩ : ∃ d : Int → Int, d = fun x => q.getD x.toNat 0 - p.getD x.toNat 0 := ⟨_, rfl⟩
    have hkl : (k : Int) ∈ l := by rw [← List.contains_iff_mem]; exact hc
    have hlpos : 0 < (l.map d).length := by rw [List.length_map]; exact List.length_pos_of_mem hkl
    obtain ⟨a, ha⟩ : ∃ a, a = mnL (l.map d) ((l.map d).length - 1) := ⟨_, rfl⟩
    have hmin : ∀ x ∈ l, a ≤ d x := fun x hx => by
      obtain ⟨j, hj, e⟩ := mem_getD.1 (List.mem_map_of_mem (f := d) hx)
      rw [ha, ← e]; exact mnL_le _ _ j (by omega)
    obtain ⟨j, hj, hje⟩ := mnL_is (l.map d) ((l.map d).length - 1)
    rw [← ha] at hje
    have hat : ∃ x ∈ l, d x = a := by
      have : (l.map d).getD j 0 ∈ l.map d := mem_getD.2 ⟨j, by omega, rfl⟩
      rw [← hje] at this
      obtain ⟨x, hx, e⟩ := List.mem_map.1 this
      exact ⟨x, hx, e⟩
    have hab : a < farBy bids p l n (rowL bids.length (mustB bids p)) := by
      have := hmin _ hkl
      rw [hd] at this
      simp at this
      have := hpq k hk
      simp only [List.getD_eq_getElem?_getD] at *
      omega
    have ha0 : 0 ≤ a := by
      obtain ⟨x, hx, e⟩ := hat
      obtain ⟨j', hj', e'⟩ := mem_getD.1 hx
      obtain ⟨x', hx', hxn⟩ := ris_at hr hj'
      have := hpq x' hxn
      rw [← e, hd, ← e', hx']
      simp only [Int.toNat_natCast]
      omega
    have hlt2 := set_part hn hm8 h (fun x => decide (d x = a)) (by obtain ⟨x, hx, e⟩ := hat; exact ⟨x, hx, decide_eq_true e⟩)
    have hr2 : risB (-1) (l.filter fun x => decide (d x = a)) (n : Int) = true := ris_sub List.filter_sublist (-1) hr
    have hq2 := hq _ hr2
    have hle := cnt_le (s := fun i => needB bids p n l i && !needB bids p n (l.filter fun q => !decide (d q = a)) i) (t := fun i => needB bids q n (l.filter fun x => decide (d x = a)) i) bids.length (fun i hi hh => by
      obtain ⟨h1, k1, hk1, hb1, hc1, hg1⟩ := part_want hh
      have hln := need_len hL hi h1
      have hd1 := of_decide_eq_true hb1
      have hdk : ∀ x : Nat, d (x : Int) = q.getD x 0 - p.getD x 0 := fun x => by rw [hd]; simp
      rw [hdk] at hd1
      have hby := by_le (far_mem_dG hi h1)
      have hgq : ∀ x : Nat, gD bids q i x = gD bids p i x - (q.getD x 0 - p.getD x 0) := fun x => by unfold gD; omega
      refine need_of hln hk1 (by rw [hgq, hd1, hg1]; omega) (fun x hx hcx => ?_)
      rw [hgq, hgq, hd1, hg1]
      cases hlx : l.contains (x : Int) with
      | true =>
        have hxl : (x : Int) ∈ l := by rw [← List.contains_iff_mem]; exact hlx
        have h5 := hmin _ hxl
        rw [hdk] at h5
        have h6 : ¬ q.getD x 0 - p.getD x 0 = a := fun e => by
          have : (l.filter fun x => decide (d x = a)).contains (x : Int) = true := by
            rw [List.contains_iff_mem, List.mem_filter]
            exact ⟨hxl, decide_eq_true (by rw [hdk]; exact e)⟩
          rw [this] at hcx; cases hcx
        have := gD_le (p := p) (show x < lenB bids i by omega)
        omega
      | false =>
        have := by_le (far_mem_out hi h1 hx hlx)
        have := hpq x hx
        omega)
    omega
/-- What the set's items cost behind the step was bid for each of them. -/
theorem step_top {bids : List (List Int)} {p : List Int} {n : Nat} (hn : n ≤ 8) (hm8 : bids.length ≤ 8) (hL : LensB bids n) (hp : p.length = n) {l : List Int} (h : setR bids p n = some l) {k : Nat} (hk : k < n) (hc : l.contains (k : Int) = true) :
    ∃ i, i < bids.length ∧ lenB bids i = n ∧ (raise p l (farBy bids p l n (rowL bids.length (mustB bids p)))).getD k 0 ≤ (bids.getD i []).getD k 0 := by
  have h1 := set_part hn hm8 h (fun x => decide (x = (k : Int))) ⟨(k : Int), by rw [← List.contains_iff_mem]; exact hc, by simp⟩
  obtain ⟨i, hi, hh⟩ := cnt_pos (Nat.lt_of_le_of_lt (Nat.zero_le _) h1)
  obtain ⟨h2, k1, hk1, hb1, hc1, hg1⟩ := part_want hh
  have hkk : k1 = k := by have := of_decide_eq_true hb1; omega
  subst hkk
  refine ⟨i, hi, need_len hL hi h2, ?_⟩
  rw [raise_get (by omega), hc1]
  have := by_le (far_mem_dG hi h2)
  unfold gD at hg1
  simp only [if_true]
  omega
end Go.Proofs.Ytifbgpkjbciblaa.Sal
end
section
/- Plain: where prices end. -/
set_option maxRecDepth 100000
namespace Go.Proofs.Ytifbgpkjbciblaa.Sal
set_option linter.all false
def mu (p : List Int) : Nat → Nat
  | 0 => 0
  | k + 1 => mu p k + (1000000 - p.getD k 0).toNat
theorem mu_le {p q : List Int} : ∀ n, (∀ k, k < n → p.getD k 0 ≤ q.getD k 0) → mu q n ≤ mu p n
  | 0, _ => Nat.le_refl _
  | n + 1, h => by
    have h1 := mu_le n (fun k hk => h k (by omega))
    have h2 := h n (by omega)
    unfold mu; omega
theorem mu_lt {p q : List Int} : ∀ n, (∀ k, k < n → p.getD k 0 ≤ q.getD k 0) → (∃ k, k < n ∧ p.getD k 0 < q.getD k 0 ∧ q.getD k 0 ≤ 1000000) → mu q n < mu p n
  | 0, _, ⟨k, hk, _⟩ => by omega
  | n + 1, h, ⟨k, hk, h1, h2⟩ => by
    unfold mu
    by_cases e : k = n
    · subst e
      have := mu_le k (fun k' hk' => h k' (by omega))
      omega
    · have := mu_lt n (fun k' hk' => h k' (by omega)) ⟨k, by omega, h1, h2⟩
      have := h n (by omega)
      omega
theorem set_ne {bids : List (List Int)} {p : List Int} {n : Nat} (hn : n ≤ 8) (hm8 : bids.length ≤ 8) (hL : LensB bids n) {l : List Int} (h : setR bids p n = some l) : ∃ k : Nat, k < n ∧ l.contains (k : Int) = true := by
  obtain ⟨hr, hlt⟩ := few_first hn (ris_of hm8 (mustB bids p)) h
  cases l with
  | cons a l =>
    obtain ⟨k, hk, hkn⟩ := ris_at hr (k := 0) (by simp)
    refine ⟨k, hkn, ?_⟩
    rw [List.contains_iff_mem]
    simp at hk; rw [hk]; simp
  | nil =>
    exfalso
    have hlt' : 0 < withN (RD bids p) n (rowL bids.length (mustB bids p)) [] := hlt
    rw [must_cnt hm8] at hlt'
    obtain ⟨i, hi, hne⟩ := cnt_pos hlt'
    have hln := need_len hL hi hne
    unfold needB at hne
    rw [Bool.and_eq_true] at hne
    obtain ⟨_, hpos⟩ := must_wants (hL i hi) hne.1
    have h1 := rowN_get (j := 0) hpos
    have := wantB_iff.1 hne.2 _ h1.1 h1.2
    simp at this
/-- Prices that may stand in a rise. -/
def Lg (res p : List Int) : Prop := p.length = res.length ∧ ∀ k, k < res.length → res.getD k 0 ≤ p.getD k 0 ∧ p.getD k 0 ≤ 1000000
theorem lg_may {res p : List Int} (h : Lg res p) : mayP res p = true := by
  unfold mayP
  rw [decide_eq_true h.1, Bool.true_and, List.all_eq_true]
  intro k hk
  have hk' : k < res.length := by have := List.mem_range.1 hk; have := h.1; omega
  have := h.2 k hk'
  rw [decide_eq_true this.1, decide_eq_true (by omega)]; rfl
structure MkOK (res : List Int) (bids : List (List Int)) : Prop where
  n1 : 1 ≤ res.length
  n8 : res.length ≤ 8
  m1 : 1 ≤ bids.length
  m8 : bids.length ≤ 8
  rb : ∀ k, 0 ≤ res.getD k 0 ∧ res.getD k 0 ≤ 1000000
  bb : ∀ i, i < bids.length → badBid (res.length : Int) (bids.getD i []) = false
theorem vec_of {res : List Int} (h : vecB res res.length = true) : 1 ≤ res.length ∧ res.length ≤ 8 ∧ ∀ k, 0 ≤ res.getD k 0 ∧ res.getD k 0 ≤ 1000000 := by
  unfold vecB at h
  simp only [Bool.and_eq_true, decide_eq_true_eq] at h
  obtain ⟨⟨h1, _⟩, h2⟩ := h
  unfold inM at h1
  simp only [Bool.and_eq_true, decide_eq_true_eq] at h1
  refine ⟨by omega, by omega, bd_of (by omega) (by omega) fun x hx => ?_⟩
  have := (List.all_eq_true.1 h2) x hx
  unfold inM at this
  simpa using this
theorem mkok {res : List Int} {bids : List (List Int)} {ord : List Int} (h : chkM res bids ord = true) : MkOK res bids := by
  obtain ⟨h1, h2, h3, h4, h5⟩ := chk_parts h
  obtain ⟨h6, h7, h8⟩ := vec_of h1
  exact ⟨h6, h7, h2, h3, h8, h5⟩
theorem MkOK.lens {res : List Int} {bids : List (List Int)} (h : MkOK res bids) : LensB bids res.length := fun i hi => lenB_or h.bb hi
/-- One step on. -/
theorem step_on {res p : List Int} {bids : List (List Int)} (hM : MkOK res bids) (hp : Lg res p) {l : List Int} (h : setR bids p res.length = some l) :
    ∃ q, stepR bids p res.length = some q ∧ Lg res q ∧ (∀ k, k < res.length → p.getD k 0 ≤ q.getD k 0) ∧ (∃ k, k < res.length ∧ p.getD k 0 < q.getD k 0) ∧ q = raise p l (farBy bids p l res.length (rowL bids.length (mustB bids p))) := by
  obtain ⟨hr, hfn⟩ := far_ne hM.n8 hM.m8 h
  have hby := by_pos hM.lens hfn
  refine ⟨_, by unfold stepR; rw [h], ⟨by rw [raise_len]; exact hp.1, fun k hk => ?_⟩, fun k hk => ?_, ?_, rfl⟩
  · have h1 := hp.2 k hk
    have e := raise_get (set := l) (x := farBy bids p l res.length (rowL bids.length (mustB bids p))) (show k < p.length by rw [hp.1]; exact hk)
    cases hc : l.contains (k : Int) with
    | false => rw [hc] at e; simp at e; simp only [List.getD_eq_getElem?_getD] at *; omega
    | true =>
      obtain ⟨i, hi, hli, hle⟩ := step_top hM.n8 hM.m8 hM.lens hp.1 h hk hc
      have := (bd_bid (hM.bb i hi) k).2
      rw [hc] at e
      simp only [if_true] at e
      omega
  · have e := raise_get (set := l) (x := farBy bids p l res.length (rowL bids.length (mustB bids p))) (show k < p.length by rw [hp.1]; exact hk)
    rw [e]; split <;> omega
  · obtain ⟨k, hk, hc⟩ := set_ne hM.n8 hM.m8 hM.lens h
    refine ⟨k, hk, ?_⟩
    rw [raise_get (by rw [hp.1]; exact hk), if_pos hc]
    omega
theorem run_from {res : List Int} {bids : List (List Int)} (hM : MkOK res bids) : ∀ (N : Nat) (p : List Int), mu p res.length ≤ N → Lg res p →
    ∃ L : List (List Int), 0 < L.length ∧ L.getD 0 [] = p ∧ (∀ i, i + 1 < L.length → stepR bids (L.getD i []) res.length = some (L.getD (i + 1) [])) ∧ stepR bids (L.getD (L.length - 1) []) res.length = none ∧ ∀ i, i < L.length → Lg res (L.getD i []) := by
  intro N
  induction N with
  | zero =>
    intro p hmu hp
    cases hs : setR bids p res.length with
    | none =>
      refine ⟨[p], by simp, rfl, fun i hi => by simp at hi, by unfold stepR; simp; rw [hs], fun i hi => ?_⟩
      have : i = 0 := by simp at hi; omega
      subst this; exact hp
    | some l =>
      exfalso
      obtain ⟨q, _, h2, h3, ⟨k, hk, h4⟩, _⟩ := step_on hM hp hs
      have := mu_lt res.length h3 ⟨k, hk, h4, (h2.2 k hk).2⟩
      omega
  | succ N ih =>
    intro p hmu hp
    cases hs : setR bids p res.length with
    | none =>
      refine ⟨[p], by simp, rfl, fun i hi => by simp at hi, by unfold stepR; simp; rw [hs], fun i hi => ?_⟩
      have : i = 0 := by simp at hi; omega
      subst this; exact hp
    | some l =>
      obtain ⟨q, h1, h2, h3, ⟨k, hk, h4⟩, _⟩ := step_on hM hp hs
      have hlt := mu_lt res.length h3 ⟨k, hk, h4, (h2.2 k hk).2⟩
      obtain ⟨L, hL0, hL1, hL2, hL3, hL4⟩ := ih q (by omega) h2
      have hS : ∀ i, (p :: L).getD (i + 1) [] = L.getD i [] := fun i => by simp [List.getD_eq_getElem?_getD]
      refine ⟨p :: L, by simp, rfl, fun i hi => ?_, ?_, fun i hi => ?_⟩
      · rw [hS]
        cases i with
        | zero => rw [hL1]; exact h1
        | succ i => rw [hS]; exact hL2 i (by simp at hi; omega)
      · have e : (p :: L).length - 1 = (L.length - 1) + 1 := by simp; omega
        rw [e, hS]; exact hL3
      · cases i with
        | zero => exact hp
        | succ i => rw [hS]; exact hL4 i (by simpa using hi)
theorem run_ex {res : List Int} {bids : List (List Int)} (hM : MkOK res bids) : ∃ L, RunS res bids L ∧ ∀ i, i < L.length → Lg res (L.getD i []) := by
  obtain ⟨L, h1, h2, h3, h4, h5⟩ := run_from hM _ res (Nat.le_refl _) ⟨rfl, fun k _ => ⟨Int.le_refl _, (hM.rb k).2⟩⟩
  exact ⟨L, ⟨h1, h2, h3, h4, fun i hi => lg_may (h5 i hi)⟩, h5⟩
theorem step_none {bids : List (List Int)} {p : List Int} {n : Nat} (h : stepR bids p n = none) : setR bids p n = none := by
  unfold stepR at h
  cases hs : setR bids p n with
  | none => rfl
  | some l => rw [hs] at h; cases h
theorem step_some {bids : List (List Int)} {p q : List Int} {n : Nat} (h : stepR bids p n = some q) : ∃ l, setR bids p n = some l ∧ q = raise p l (farBy bids p l n (rowL bids.length (mustB bids p))) := by
  unfold stepR at h
  cases hs : setR bids p n with
  | none => rw [hs] at h; cases h
  | some l => rw [hs] at h; exact ⟨l, rfl, (Option.some.inj h).symm⟩
/-- Nothing that is come to is dearer than prices at which all that must can. -/
theorem run_le {res : List Int} {bids : List (List Int)} {L : List (List Int)} (hM : MkOK res bids) (hR : RunS res bids L) (hLg : ∀ i, i < L.length → Lg res (L.getD i [])) {q : List Int} (hq : compP bids q res.length) (hrq : ∀ k, k < res.length → res.getD k 0 ≤ q.getD k 0) :
    ∀ i, i < L.length → ∀ k, k < res.length → (L.getD i []).getD k 0 ≤ q.getD k 0
  | 0, h, k, hk => by rw [hR.fst]; exact hrq k hk
  | i + 1, h, k, hk => by
    have ih := run_le hM hR hLg hq hrq i (by omega)
    obtain ⟨l, h1, h2⟩ := step_some (hR.nxt i h)
    rw [h2]
    exact no_over hM.n8 hM.m8 hM.lens (hLg i (by omega)).1 ih hq h1 k hk
/-- The end. -/
def endL (L : List (List Int)) : List Int := L.getD (L.length - 1) []
theorem run_end {res : List Int} {bids : List (List Int)} {L : List (List Int)} (hM : MkOK res bids) (hR : RunS res bids L) (hLg : ∀ i, i < L.length → Lg res (L.getD i [])) : compP bids (endL L) res.length ∧ Lg res (endL L) :=
  ⟨(comp_iff hM.n8 hM.m8).1 (step_none hR.lst), hLg _ (by have := hR.pos; omega)⟩
end Go.Proofs.Ytifbgpkjbciblaa.Sal
end
section
/- salesroomlaw09.alive. -/
set_option maxRecDepth 100000
namespace Go.Proofs.Ytifbgpkjbciblaa.Sal
open Go.RowKit
attribute [local irreducible] Go.Code.wpIn Go.wpListIn Ct Ints Rows Sl At Rw WJ
set_option linter.all false
theorem At.three {w : World} {b : Nat} {E : TypeId} {p q s : Int} (h : At w b E [.int .i64 p, .int .i64 q, .int .i64 s]) : Ints w (sv b 3 3) [p, q, s] := At.ints (l := [p, q, s]) (c := 3) h (by simp) (by simp)
end Go.Proofs.Ytifbgpkjbciblaa.Sal
end
section
/- salesroomlaw13.lives. -/
set_option maxRecDepth 100000
namespace Go.Proofs.Ytifbgpkjbciblaa.Sal
open Go.RowKit
def stepC (bids : List (List Int)) (prices : List Int) (n : Nat) : Option (List Int) := match fewTo (RD bids prices) n (rowL bids.length (mustB bids prices)) (n + 1) with
  | none => none
  | some set => some (raise prices set (farBy bids prices set n (rowL bids.length (mustB bids prices))))
theorem stepC_eq {bids : List (List Int)} {prices : List Int} {n : Nat} (hn : n ≤ 8) (hm8 : bids.length ≤ 8) : stepR bids prices n = stepC bids prices n := by
  have e : fewR (RD bids prices) bids.length n (rowL bids.length (mustB bids prices)) = fewTo (RD bids prices) n (rowL bids.length (mustB bids prices)) (n + 1) := fewR_eq hn (ris_of hm8 _)
  unfold stepR stepC setR
  cases h : fewTo (RD bids prices) n (rowL bids.length (mustB bids prices)) (n + 1) with
  | none => simp only [e, h]
  | some l => simp only [e, h]
theorem one_run : RunS [2] [[9], [5]] [[2], [5]] := by
  refine ⟨by simp, rfl, fun i hi => ?_, ?_, fun i hi => ?_⟩
  · have : i = 0 := by simp at hi; omega
    subst this
    rw [stepC_eq (by simp) (by simp)]; decide +kernel
  · rw [stepC_eq (by simp) (by simp)]; decide +kernel
  · match i, hi with
    | 0, _ => decide +kernel
    | 1, _ => decide +kernel
theorem two_run : RunS [0, 0] [[4, 4], [4, 4], [3, 0]] [[0, 0], [3, 3]] := by
  refine ⟨by simp, rfl, fun i hi => ?_, ?_, fun i hi => ?_⟩
  · have : i = 0 := by simp at hi; omega
    subst this
    rw [stepC_eq (by simp) (by simp)]; decide +kernel
  · rw [stepC_eq (by simp) (by simp)]; decide +kernel
  · match i, hi with
    | 0, _ => decide +kernel
    | 1, _ => decide +kernel
theorem one_s1 : stepR [[9], [5]] [2] 1 = some [5] := by rw [stepC_eq (by simp) (by simp)]; decide +kernel
theorem one_s2 : stepR [[9], [5]] [5] 1 = none := by rw [stepC_eq (by simp) (by simp)]; decide +kernel
theorem one_chk : chkM [2] [[9], [5]] [0, 1] = true := by decide +kernel
theorem two_chk : chkM [0, 0] [[4, 4], [4, 4], [3, 0]] [0, 1, 2] = true := by decide +kernel
theorem ret_cV {P : Program} {fn : Func} {w : World} {R : Value → World → Prop} {N : Nat} {σ : Nat → Value} {a : Nat} {ta B : TypeId} {b : Nat} {cs : List Value} {dd : TypeDesc} (hres : fn.results = #[.cell a ta]) (ha : ev N σ (.tmp a) = .pointer (some ⟨b, 0, none⟩))
    (hu : P.underlying ta = some dd) (hd : (match dd with | .struct _ | .array _ _ => true | _ => false) = true) (hsz : (P.info? ta).map (·.size) = some cs.length) (hA : At w b B cs) (hR : R (.agg cs.toArray) w) : Post P fn R .ret (mk N σ []) w := by
  have key : LeavesInM (FW none) 0 P fn (mk N σ []).tmps (RE R) [] .returning w := by
    refine leave_nil (v := .agg cs.toArray) ?_ hR
    have h1 : (mk N σ []).tmps.getD a undef = .pointer (some ⟨b, 0, none⟩) := getD_mk' ha
    simp only [Array.getD_eq_getD_getElem?] at h1
    simp [results, hres, h1, asAddr, run_loadVar_row (P := P) w b B ta cs.toArray (0, 0) dd hA hu hd (by simpa using hsz)]
  exact key
attribute [local irreducible] Go.Code.wpIn Go.wpListIn Ct Ints Rows Sl At Rw WJ
set_option linter.all false
theorem ok_one : CallOK Try.prog 28 := callOK Try.func28 (by kernel_rfl) rfl
theorem ok_lives : CallOK Try.prog 11 := callOK Try.func11 (by kernel_rfl) rfl
theorem in_mkt : ∃ ti, Try.prog.info? 25 = some ti ∧ ti.zero = some (.agg [.slice none 0 0, .slice none 0 0, .slice none 0 0].toArray) := in_z (by kernel_rfl)
theorem built_mk (a1 a2 a3 : Option Addr) (n1 n2 n3 c1 c2 c3 : Nat) : Try.prog.built 25 [(0, .slice a1 n1 c1), (1, .slice a2 n2 c2), (2, .slice a3 n3 c3)] = some [.slice a1 n1 c1, .slice a2 n2 c2, .slice a3 n3 c3].toArray := by kernel_rfl
theorem sz_mk (a b c : Value) : (Try.prog.info? 25).map (·.size) = some [a, b, c].length := by
  show _ = some 3
  kernel_rfl
theorem one_ct (w : World) : Ct Try.prog 28 #[] w fun u w' => ∃ rv bv ov, u = .agg #[rv, bv, ov] ∧ Mk w' rv bv ov [2] [[9], [5]] [0, 1] ∧ Ex w w' := by
  refine Exists.elim in_mkt fun ti hti => ?_
  refine enter (N := 7) (vs := []) Try.func28 rfl rfl rfl ?_
  repeat ((refine isC ?_; refine c_sr ?_))
  refine s_alloc (cs := [.slice none 0 0, .slice none 0 0, .slice none 0 0]) hti.1 hti.2 rfl ?_
  intro b0 w0 hb0 hA0 hx0 hs0
  repeat (first | (refine isC ?_; refine c_sr ?_) | (refine l_th ?_))
  refine s_bs1 sl_ints in_int rfl rfl ?_
  intro b1 w1 hb1 hA1 hx1 hs1
  refine s_bs1 sl_ints in_int rfl rfl ?_
  intro b2 w2 hb2 hA2 hx2 hs2
  refine s_bs1 sl_ints in_int rfl rfl ?_
  intro b3 w3 hb3 hA3 hx3 hs3
  refine s_bs2 sl_rows in_ints rfl rfl rfl rfl ?_
  intro b4 w4 hb4 hA4 hx4 hs4
  refine s_bs2 sl_ints in_int rfl rfl rfl rfl ?_
  intro b5 w5 hb5 hA5 hx5 hs5
  refine s_bldW (cells := [sv b1 1 1, sv b4 2 2, sv b5 2 2]) (built_mk _ _ _ _ _ _ _ _ _) ?_
  have l0 := hA0.lt
  have l1 := hA1.lt
  have l4 := hA4.lt
  refine s_stV (cs := [sv b1 1 1, sv b4 2 2, sv b5 2 2]) (sz_mk _ _ _) rfl rfl (hA0.ex (hx1.trans (hx2.trans (hx3.trans (hx4.trans hx5))))) rfl rfl ?_
  intro w6 hA6 hg6 hs6
  have hx15 := hx1.trans (hx2.trans (hx3.trans (hx4.trans hx5)))
  have k : ∀ {b : Nat} {E : TypeId} {cs : List Value}, At w5 b E cs → b ≠ b0 → At w6 b E cs := fun h hne => h.grown hg6 (fun e => hne (Option.some.inj e).symm)
  have l2 := hA2.lt
  have l3 := hA3.lt
  have l5 := hA5.lt
  have hM6 : Mk w6 (sv b1 1 1) (sv b4 2 2) (sv b5 2 2) [2] [[9], [5]] [0, 1] :=
    ⟨(k (hA1.ex (hx2.trans (hx3.trans (hx4.trans hx5)))) (by omega)).one, rows2 (l1 := [9]) (l2 := [5]) (k (hA4.ex hx5) (by omega)) (k (hA2.ex (hx3.trans (hx4.trans hx5))) (by omega)).one (k (hA3.ex (hx4.trans hx5)) (by omega)).one, (k hA5 (by omega)).two⟩
  repeat (first | (refine isC ?_; refine c_ret ?_) | (refine l_th ?_))
  exact ret_cV rfl rfl Try.underlying25 rfl (sz_mk _ _ _) hA6 ⟨_, _, _, rfl, hM6, (hx0.trans hx15).store hg6 (by omega)⟩
theorem one_Step1 (rv bv ov pv : Value) (w : World) (hM : Mk w rv bv ov [2] [[9], [5]] [0, 1]) (hp : Ints w pv [2]) : Ct Try.prog 13 #[.agg #[rv, bv, ov], pv] w fun u w' => ∃ b, u = .tuple #[sv b 1 1, .bool true, .int .i64 0] ∧ Ints w' (sv b 1 1) [5] ∧ Ex w w' :=
  (Step_ok rv bv ov pv [2] [[9], [5]] [0, 1] [2] w hM hp one_chk (by decide +kernel)).mono fun u w' ⟨b, hu, hO, _, hx⟩ => by
    have e : stepR [[9], [5]] [2] ([2] : List Int).length = some [5] := one_s1
    rw [e] at hu hO
    exact ⟨b, hu, hO.ints, hx⟩
theorem one_Step2 (rv bv ov pv : Value) (w : World) (hM : Mk w rv bv ov [2] [[9], [5]] [0, 1]) (hp : Ints w pv [5]) : Ct Try.prog 13 #[.agg #[rv, bv, ov], pv] w fun u w' => ∃ b, u = .tuple #[sv b 1 1, .bool false, .int .i64 0] ∧ Ints w' (sv b 1 1) [5] ∧ Ex w w' :=
  (Step_ok rv bv ov pv [2] [[9], [5]] [0, 1] [5] w hM hp one_chk (by decide +kernel)).mono fun u w' ⟨b, hu, hO, _, hx⟩ => by
    have e : stepR [[9], [5]] [5] ([2] : List Int).length = none := one_s2
    rw [e] at hu hO
    exact ⟨b, hu, hO.ints, hx⟩
theorem one_Least (rv bv ov : Value) (w : World) (hM : Mk w rv bv ov [2] [[9], [5]] [0, 1]) : Ct Try.prog 9 #[.agg #[rv, bv, ov]] w fun u w' => ∃ b, u = .tuple #[sv b 1 1, .int .i64 0] ∧ Ints w' (sv b 1 1) [5] ∧ Ex w w' :=
  (Least_ok rv bv ov [2] [[9], [5]] [0, 1] [[2], [5]] w hM one_chk one_run).mono fun u w' ⟨b, hu, hO, _, hx⟩ => ⟨b, hu, hO.ints, hx⟩
theorem two_Least (rv bv ov : Value) (w : World) (hM : Mk w rv bv ov [0, 0] [[4, 4], [4, 4], [3, 0]] [0, 1, 2]) : Ct Try.prog 9 #[.agg #[rv, bv, ov]] w fun u w' => ∃ b, u = .tuple #[sv b 2 2, .int .i64 0] ∧ Ints w' (sv b 2 2) [3, 3] ∧ Ex w w' :=
  (Least_ok rv bv ov [0, 0] [[4, 4], [4, 4], [3, 0]] [0, 1, 2] [[0, 0], [3, 3]] w hM two_chk two_run).mono fun u w' ⟨b, hu, hO, _, hx⟩ => ⟨b, hu, hO.ints, hx⟩
set_option maxHeartbeats 4000000 in
theorem lives_ct (w : World) : Ct Try.prog 11 #[] w fun u w' => u = .bool true ∧ Ex w w' := by
  refine Exists.elim in_mkt fun ti hti => ?_
  refine enter (N := 98) (vs := []) Try.func11 rfl rfl rfl ?_
  repeat (first | (refine isO ?_; refine s_assign ?_) | (refine isC ?_; refine c_sr ?_) | (refine l_th ?_))
  refine s_bs2 sl_ints in_int rfl rfl rfl rfl ?_
  intro b1 w1 hb1 hA1 hx1 hs1
  refine s_bs2 sl_ints in_int rfl rfl rfl rfl ?_
  intro b2 w2 hb2 hA2 hx2 hs2
  refine s_bs2 sl_ints in_int rfl rfl rfl rfl ?_
  intro b3 w3 hb3 hA3 hx3 hs3
  refine s_bs2 sl_ints in_int rfl rfl rfl rfl ?_
  intro b4 w4 hb4 hA4 hx4 hs4
  refine s_bs3 sl_rows in_ints rfl rfl rfl rfl rfl rfl ?_
  intro b5 w5 hb5 hA5 hx5 hs5
  refine s_bs3 sl_ints in_int rfl rfl rfl rfl rfl rfl ?_
  intro b6 w6 hb6 hA6 hx6 hs6
  refine s_bldW (cells := [sv b1 2 2, sv b5 3 3, sv b6 3 3]) (built_mk _ _ _ _ _ _ _ _ _) ?_
  refine s_alloc (cs := [.slice none 0 0, .slice none 0 0, .slice none 0 0]) hti.1 hti.2 rfl ?_
  intro b7 w7 hb7 hA7 hx7 hs7
  refine s_stV (cs := [sv b1 2 2, sv b5 3 3, sv b6 3 3]) (sz_mk _ _ _) rfl rfl hA7 rfl rfl ?_
  intro w8 hA8 hg8 hs8
  have hx06 := hx1.trans (hx2.trans (hx3.trans (hx4.trans (hx5.trans hx6))))
  have hx08 : Ex w w8 := (hx06.trans hx7).store hg8 (by have := hx06.size; omega)
  have hx68 : Ex w6 w8 := hx7.store hg8 (by omega)
  have hR5 : Rows w5 (sv b5 3 3) [[4, 4], [4, 4], [3, 0]] := rows3 (l1 := [4, 4]) (l2 := [4, 4]) (l3 := [3, 0]) hA5 (hA2.two.ex (hx3.trans (hx4.trans hx5))) (hA3.two.ex (hx4.trans hx5)) (hA4.two.ex hx5)
  have hM8 : Mk w8 (sv b1 2 2) (sv b5 3 3) (sv b6 3 3) [0, 0] [[4, 4], [4, 4], [3, 0]] [0, 1, 2] := ⟨hA1.two.ex ((hx2.trans (hx3.trans (hx4.trans (hx5.trans hx6)))).trans hx68), hR5.ex (hx6.trans hx68), hA6.three.ex hx68⟩
  repeat (first | (refine isC ?_; refine c_sr ?_) | (refine l_th ?_))
  refine s_call ok_one rfl (one_ct w8) ?_
  rintro u w9 ⟨r1, v1, o1, rfl, hM9, hx9⟩
  refine s_bs1 sl_ints in_int rfl rfl ?_
  intro ba wa hba hAa hxa hsa
  refine s_call ok_Step rfl (one_Step1 r1 v1 o1 _ wa (hM9.ex hxa) hAa.one) ?_
  rintro u wb ⟨bb, rfl, hI1, hxb⟩
  repeat (first | (refine isO ?_; first | refine s_move ?_ | refine s_assign ?_ | refine s_extract rfl rfl ?_) | (refine isC ?_; refine c_sr ?_) | (refine l_th ?_))
  refine s_call ok_one rfl (one_ct wb) ?_
  rintro u wc ⟨r2, v2, o2, rfl, hMc, hxc⟩
  refine s_bs1 sl_ints in_int rfl rfl ?_
  intro bd wd hbd hAd hxd hsd
  refine s_call ok_Step rfl (one_Step2 r2 v2 o2 _ wd (hMc.ex hxd) hAd.one) ?_
  rintro u we ⟨be, rfl, hI2, hxe⟩
  repeat (first | (refine isO ?_; first | refine s_move ?_ | refine s_assign ?_ | refine s_extract rfl rfl ?_) | (refine isC ?_; refine c_sr ?_) | (refine l_th ?_))
  refine s_call ok_one rfl (one_ct we) ?_
  rintro u wf ⟨r3, v3, o3, rfl, hMf, hxf⟩
  refine s_call ok_rLeast rfl (one_Least r3 v3 o3 wf hMf) ?_
  rintro u wg ⟨bg, rfl, hI3, hxg⟩
  have hx8g : Ex w8 wg := hx9.trans (hxa.trans (hxb.trans (hxc.trans (hxd.trans (hxe.trans (hxf.trans hxg))))))
  repeat (first | (refine isO ?_; first | refine s_move ?_ | refine s_assign ?_ | refine s_extract rfl rfl ?_) | (refine isC ?_; refine c_sr ?_) | (refine l_th ?_))
  refine s_ldV Try.underlying25 rfl (sz_mk _ _ _) rfl (hA8.ex hx8g) ?_
  refine s_call ok_rLeast rfl (two_Least _ _ _ wg (hM8.ex hx8g)) ?_
  rintro u wh ⟨bh, rfl, hI4, hxh⟩
  repeat (first | (refine isO ?_; first | refine s_move ?_ | refine s_assign ?_ | refine s_extract rfl rfl ?_) | (refine isC ?_; refine c_sr ?_) | (refine l_th ?_))
  refine s_call ok_one rfl (one_ct wh) ?_
  rintro u wi ⟨r4, v4, o4, rfl, hMi, hxi⟩
  refine s_bs1 sl_ints in_int rfl rfl ?_
  intro bj wj hbj hAj hxj hsj
  refine s_call ok_Step rfl (Step_bad r4 v4 o4 _ [2] [[9], [5]] [0, 1] [1] wj (hMi.ex hxj) hAj.one (by decide +kernel)) ?_
  rintro u wk ⟨rfl, hxk⟩
  have hxbk : Ex wb wk := hxc.trans (hxd.trans (hxe.trans (hxf.trans (hxg.trans (hxh.trans (hxi.trans (hxj.trans hxk)))))))
  have hxek : Ex we wk := hxf.trans (hxg.trans (hxh.trans (hxi.trans (hxj.trans hxk))))
  have hxhk : Ex wh wk := hxi.trans (hxj.trans hxk)
  have hx0k : Ex w wk := hx08.trans ((hx9.trans (hxa.trans hxb)).trans hxbk)
  repeat (first | (refine isO ?_; first | refine s_move ?_ | refine s_assign ?_ | (refine isG ?_; refine g_yes rfl rfl ?_) | (refine isBin ?_; refine s_eqlT rfl rfl (by omega) ?_) | (refine isPick ?_; refine s_pickt rfl rfl ?_) | refine s_extract rfl rfl ?_) | (refine isC ?_; refine c_sr ?_) | (refine l_th ?_))
  refine s_bs1 sl_ints in_int rfl rfl ?_
  intro bl wl hbl hAl hxl hsl
  repeat ((refine isO ?_; (refine isG ?_; refine g_yes rfl rfl ?_)))
  refine s_call ok_SameInts rfl (SameInts_ct _ _ [5] [5] wl (hI1.ex (hxbk.trans hxl)) hAl.one) ?_
  rintro u wm ⟨rfl, hxm⟩
  refine s_re (v' := .bool true) rfl ?_
  repeat ((refine isO ?_; first | refine s_move ?_ | (refine isG ?_; refine g_yes rfl rfl ?_) | (refine isBin ?_; refine s_eqlT rfl rfl (by omega) ?_) | (refine isPick ?_; refine s_pickt rfl rfl ?_) | refine s_not rfl ?_))
  refine s_bs1 sl_ints in_int rfl rfl ?_
  intro bn wn hbn hAn hxn hsn
  have hxkn := hxl.trans (hxm.trans hxn)
  repeat ((refine isO ?_; (refine isG ?_; refine g_yes rfl rfl ?_)))
  refine s_call ok_SameInts rfl (SameInts_ct _ _ [5] [5] wn (hI2.ex (hxek.trans hxkn)) hAn.one) ?_
  rintro u wo ⟨rfl, hxo⟩
  refine s_re (v' := .bool true) rfl ?_
  repeat ((refine isO ?_; first | refine s_move ?_ | (refine isG ?_; refine g_yes rfl rfl ?_) | (refine isBin ?_; refine s_eqlT rfl rfl (by omega) ?_) | (refine isPick ?_; refine s_pickt rfl rfl ?_)))
  refine s_bs1 sl_ints in_int rfl rfl ?_
  intro bp wp hbp hAp hxp hsp
  have hxkp := hxkn.trans (hxo.trans hxp)
  repeat ((refine isO ?_; (refine isG ?_; refine g_yes rfl rfl ?_)))
  refine s_call ok_SameInts rfl (SameInts_ct _ _ [5] [5] wp (hI3.ex ((hxh.trans hxhk).trans hxkp)) hAp.one) ?_
  rintro u wq ⟨rfl, hxq⟩
  refine s_re (v' := .bool true) rfl ?_
  repeat ((refine isO ?_; first | refine s_move ?_ | (refine isG ?_; refine g_yes rfl rfl ?_) | (refine isBin ?_; refine s_eqlT rfl rfl (by omega) ?_) | (refine isPick ?_; refine s_pickt rfl rfl ?_)))
  refine s_bs2 sl_ints in_int rfl rfl rfl rfl ?_
  intro br wr hbr hAr hxr hsr
  have hxkr := hxkp.trans (hxq.trans hxr)
  repeat ((refine isO ?_; (refine isG ?_; refine g_yes rfl rfl ?_)))
  refine s_call ok_SameInts rfl (SameInts_ct _ _ [3, 3] [3, 3] wr (hI4.ex (hxhk.trans hxkr)) hAr.two) ?_
  rintro u ws ⟨rfl, hxs⟩
  refine s_re (v' := .bool true) rfl ?_
  repeat (first | (refine isO ?_; first | refine s_move ?_ | refine s_assign ?_ | (refine isG ?_; refine g_yes rfl rfl ?_) | (refine isBin ?_; refine s_eqlT rfl rfl (by omega) ?_) | (refine isPick ?_; refine s_pickt rfl rfl ?_)) | (refine isC ?_; refine c_ret ?_) | (refine l_th ?_))
  exact ret1 rfl rfl ⟨rfl, hx0k.trans (hxkr.trans hxs)⟩
end Go.Proofs.Ytifbgpkjbciblaa.Sal
end
