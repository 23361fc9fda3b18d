/- Texts that YtifbgpkjbciblaaF131 leans on, laid together: L131. -/
import Derived.Test.YtifbgpkjbciblaaMF1317
section
/- The walk of salesroomlaw13.RisesEnd. -/
set_option maxRecDepth 100000
namespace Go.Proofs.Ytifbgpkjbciblaa.Sal
open Go.RowKit
/-- Is any of them dearer, among the first? -/
def upN (p q : List Int) (k : Nat) : Bool := (List.range k).any fun j => decide (p.getD j 0 < q.getD j 0)
theorem upN_succ (p q : List Int) (k : Nat) : upN p q (k + 1) = (upN p q k || decide (p.getD k 0 < q.getD k 0)) := by simp [upN, List.range_succ]
theorem upN_iff {p q : List Int} {k : Nat} : upN p q k = true ↔ ∃ j, j < k ∧ p.getD j 0 < q.getD j 0 := by simp [upN]
attribute [local irreducible] Go.Code.wpIn Go.wpListIn Ct Ints Rows Sl At Rw WJ
set_option linter.all false
set_option maxHeartbeats 8000000 in
theorem RisesEnd_ct (rv bv ov : Value) (res : List Int) (bids : List (List Int)) (ord : List Int) (w : World) (hM : Mk w rv bv ov res bids ord) :
    Ct Try.prog 3 #[.agg #[rv, bv, ov]] w fun u w' => u = .bool true ∧ Ex w w' := by
  refine enter (N := 158) (vs := [.agg #[rv, bv, ov]]) Try.func3 rfl rfl rfl ?_
  repeat ((refine isC ?_; refine c_sr ?_))
  refine s_box (cs := [rv, bv, ov]) rfl rfl ?_
  intro b0 w0 hb0 hZ hx0 hs0
  have hM0 := hM.ex hx0
  repeat (first | (refine isO ?_; refine s_assign ?_) | (refine isC ?_; refine c_sr ?_) | (refine l_th ?_))
  refine s_ldV Try.underlying25 rfl (sz_mk _ _ _) rfl hZ ?_
  refine Or.elim (tfV (chkM res bids ord)) (fun hck => ?_) (fun hck => ?_)
  · have hOK := mkok hck
    refine Exists.elim (run_ex hOK) fun L hL => ?_
    have hR := hL.1
    have hLg := hL.2
    have hend := run_end hOK hR hLg
    have hpos := hR.pos
    have hn1 := hOK.n1
    have hn8 := hOK.n8
    have hm1 := hOK.m1
    have hm8 := hOK.m8
    refine s_call ok_rLeast rfl (Least_ok rv bv ov res bids ord L w0 hM0 hck hR) ?_
    rintro u w1 ⟨be, rfl, hOe, hbe, hx1⟩
    have hx01 := hx0.trans hx1
    have hZ1 := hZ.ex hx1
    have hM1 := hM.ex hx01
    have hr1 := hM1.r
    have hel : (endL L).length = res.length := hend.2.1
    have hIe : Ints w1 (sv be res.length res.length) (endL L) := by have := hOe.ints; rw [show (L.getD (L.length - 1) []).length = res.length from hel] at this; exact this
    repeat (first | (refine isO ?_; first | refine s_move ?_ | refine s_assign ?_ | (refine isBin ?_; refine s_neqF rfl rfl (by omega) ?_) | (refine isLD ?_; refine s_ldA ty_ints rfl (by assumption) rfl ?_) | refine s_extract rfl rfl ?_) | (refine isO ?_; refine s_fa Try.underlying25 rfl ty_ints rfl ?_) | (refine isC ?_; first | refine c_sr ?_ | refine c_th ?_ | refine c_seq ?_ | refine c_iff rfl ?_) | (refine l_th ?_))
    refine s_call ok_TwinInts rfl (TwinInts_ct rv res w1 hr1 (by omega)) ?_
    rintro u w2 ⟨bt, ct, rfl, hbt, hOt, hx2⟩
    have hIt : Ints w2 (sv bt res.length ct) (L.getD 0 []) := by rw [hR.fst]; exact hOt.ints
    have hx02 := hx01.trans hx2
    repeat (first | (refine isO ?_; refine s_assign ?_) | (refine isC ?_; refine c_block ?_) | (refine l_th ?_))
    refine c_loop (γ := Nat × Value) 365375409332725729550921208179070754879623921636 (fun q => [(5, q.2)]) (fun q W => q.1 < L.length ∧ Ints W q.2 (L.getD q.1 []) ∧ Ex w2 W) (fun q => L.length - q.1) (0, sv bt res.length ct) ⟨rfl, trivial⟩ ⟨hpos, hIt, Ex.refl _⟩ ?_
    rintro ⟨i, pv⟩ ρ W ⟨hi0, hp0, hxW⟩
    have hi : i < L.length := hi0
    have hIp : Ints W pv (L.getD i []) := hp0
    refine Exists.elim (show ∃ p, p = L.getD i [] from ⟨_, rfl⟩) fun p hp => ?_
    have hlg : Lg res p := by rw [hp]; exact hLg i hi
    rw [← hp] at hIp
    have hpl := hlg.1
    have hx0W := hx02.trans hxW
    have hMW := hM.ex hx0W
    have hZW := (hZ1.ex hx2).ex hxW
    refine Exists.elim (show ∃ nx, nx = (stepR bids p res.length).getD p from ⟨_, rfl⟩) fun nx hnx => ?_
    refine Exists.elim (show ∃ b, b = (stepR bids p res.length).isSome from ⟨_, rfl⟩) fun bb hbb => ?_
    have hcase : (bb = true ∧ i + 1 < L.length ∧ nx = L.getD (i + 1) []) ∨ (bb = false ∧ i + 1 = L.length ∧ nx = p) := by
      rcases Nat.lt_or_ge (i + 1) L.length with h | h
      · left
        have h1 := hR.nxt i h
        rw [← hp] at h1
        exact ⟨by rw [hbb, h1]; rfl, h, by rw [hnx, h1]; rfl⟩
      · right
        have h1 := hR.lst
        have e : L.length - 1 = i := by omega
        rw [e, ← hp] at h1
        exact ⟨by rw [hbb, h1]; rfl, by omega, by rw [hnx, h1]; rfl⟩
    have hnl : nx.length = res.length := by
      rcases hcase with ⟨_, h, e⟩ | ⟨_, _, e⟩
      · rw [e]; exact (hLg _ h).1
      · rw [e]; exact hpl
    have hup : ∀ k, k < res.length → p.getD k 0 ≤ nx.getD k 0 := by
      rcases hcase with ⟨_, h, e⟩ | ⟨_, _, e⟩
      · rw [e, hp]; exact (run_up hOK hR hLg h).1
      · rw [e]; exact fun k _ => Int.le_refl _
    have hto : ∀ k, k < res.length → nx.getD k 0 ≤ (endL L).getD k 0 := by
      have hle := run_le hOK hR hLg hend.1 (fun k hk => (hend.2.2 k hk).1)
      rcases hcase with ⟨_, h, e⟩ | ⟨_, _, e⟩
      · rw [e]; exact hle _ h
      · rw [e, hp]; exact hle _ hi
    have hbu : upN p nx res.length = bb := by
      rcases hcase with ⟨h0, h, e⟩ | ⟨h0, _, e⟩
      · rw [h0, upN_iff, e, hp]; exact (run_up hOK hR hLg h).2
      · rw [h0, e]
        cases hu : upN p p res.length with
        | false => rfl
        | true => obtain ⟨j, _, h⟩ := upN_iff.1 hu; omega
    repeat ((refine isC ?_; first | refine c_sr ?_ | refine c_block ?_))
    refine s_ldV Try.underlying25 rfl (sz_mk _ _ _) rfl hZW ?_
    repeat ((refine isO ?_; refine s_move ?_))
    refine s_call ok_Step rfl (Step_ok rv bv ov pv res bids ord p W hMW hIp hck (lg_may hlg)) ?_
    rintro u W1 ⟨bn, rfl, hOn, hbn, hx1W⟩
    rw [← hnx] at hOn
    rw [← hbb]
    have hIn : Ints W1 (sv bn res.length res.length) nx := by have := hOn.ints; rw [hnl] at this; exact this
    have hIp1 := hIp.ex hx1W
    have hIe1 := hIe.ex ((hx2.trans hxW).trans hx1W)
    repeat (first | (refine isO ?_; first | refine s_move ?_ | refine s_assign ?_ | (refine isG ?_; refine g_yes rfl rfl ?_) | (refine isBin ?_; refine s_neqF rfl rfl (by omega) ?_) | (refine isCall ?_; refine s_lenI sl_ints rfl (by assumption) ?_) | (refine isPick ?_; refine s_pickf rfl rfl ?_) | refine s_extract rfl rfl ?_) | (refine isC ?_; first | refine c_sr ?_ | refine c_th ?_ | refine c_seq ?_ | refine c_iff rfl ?_ | refine c_block ?_) | (refine l_th ?_))
    refine c_loop (γ := Nat × Bool) 79228162513976107217392240132 (fun q => [(10, .int .i64 (q.1 : Int)), (9, .bool q.2)]) (fun q W' => q.1 ≤ res.length ∧ q.2 = upN p nx q.1 ∧ Ex W1 W') (fun q => res.length - q.1) (0, false) ⟨rfl, rfl, trivial⟩ ⟨Nat.zero_le _, rfl, Ex.refl _⟩ ?_
    rintro ⟨k, b⟩ ρ2 W2 ⟨hk0, hb0, hx12⟩
    have hk : k ≤ res.length := hk0
    have hb : b = upN p nx k := hb0
    have hIp2 := hIp1.ex hx12
    have hIn2 := hIn.ex hx12
    have hIe2 := hIe1.ex hx12
    repeat (first | (refine isO ?_; first | refine s_move ?_ | (refine isBin ?_; refine s_lss rfl rfl ?_) | (refine isCall ?_; refine s_lenI sl_ints rfl (by assumption) ?_)) | (refine isC ?_; first | refine c_sr ?_ | refine c_seq ?_) | (refine l_th ?_))
    refine c_ifd rfl (fun h => ?_) (fun h => ?_)
    · have hk' : k < res.length := by omega
      have h1 := hup k hk'
      have h2 := hto k hk'
      have hsu := upN_succ p nx k
      repeat ((refine isC ?_; first | refine c_th ?_ | refine c_seq ?_ | refine c_block ?_))
      refine c_drawO (Ex.refl W2) 0 8 [(0, true), (1, true), (2, true), (3, true), (4, true), (5, true), (6, true), (7, true), (8, true), (9, true), (10, true), (11, true), (12, true), (13, true), (14, true), (15, true), (16, true), (17, true), (18, true), (19, true)] mixed (by kernel_rfl) ?_
      have hxd := Ex.drew W2
      refine d_move rfl ?_
      refine d_move rfl ?_
      refine d_iaI (n := k) rfl sl_ints ty_int rfl rfl hIn2 (by omega) ?_
      intro ad1 hc1
      refine d_ld rfl ty_int rfl hc1 ?_
      refine d_move rfl ?_
      refine d_move rfl ?_
      refine d_iaI (n := k) rfl sl_ints ty_int rfl rfl hIp2 (by omega) ?_
      intro ad2 hc2
      refine d_ld rfl ty_int rfl hc2 ?_
      refine d_lss rfl rfl rfl ?_
      refine d_re (v' := .bool false) (vbool (decide_eq_false (by omega))) ?_
      refine d_move rfl ?_
      refine d_move rfl ?_
      refine d_move rfl ?_
      refine d_iaI (n := k) rfl sl_ints ty_int rfl rfl hIn2 (by omega) ?_
      intro ad3 hc3
      refine d_ld rfl ty_int rfl hc3 ?_
      refine d_move rfl ?_
      refine d_move rfl ?_
      refine d_iaI (n := k) rfl sl_ints ty_int rfl rfl hIe2 (by omega) ?_
      intro ad4 hc4
      refine d_ld rfl ty_int rfl hc4 ?_
      refine d_gtr rfl rfl rfl ?_
      refine d_re (v' := .bool false) (vbool (decide_eq_false (by omega))) ?_
      refine d_pickf rfl rfl rfl ?_
      refine d_nil ?_
      repeat ((refine isC ?_; first | refine c_th ?_ | refine c_iff rfl ?_))
      refine c_drawO (Ex.refl W2.drew) 0 8 [(0, true), (1, true), (2, true), (3, true), (4, true), (5, true), (6, true), (7, true), (8, true), (9, true), (10, true), (11, true), (12, true)] mixed (by kernel_rfl) ?_
      have hxe := hxd.trans (Ex.drew W2.drew)
      have hIp3 := hIp2.ex hxd
      have hIn3 := hIn2.ex hxd
      cases b with
      | true =>
        have hsk : true = upN p nx (k + 1) := by rw [hsu, ← hb]; simp
        refine d_move rfl ?_
        refine d_move rfl ?_
        iterate 9 refine d_gno rfl rfl rfl rfl ?_
        refine d_pickt rfl rfl rfl ?_
        refine d_assign rfl ?_
        refine d_nil ?_
        repeat (first | (refine isO ?_; first | refine s_move ?_ | refine s_assign ?_ | (refine isBin ?_; refine s_inc rfl (by omega) ?_)) | (refine isC ?_; refine c_region ?_) | (refine l_th ?_))
        exact loop_end (k + 1, _) (by (repeat (first | exact agree_refl _ _ | refine agree_upd rfl ?_ | refine agree_ext rfl ?_ | refine agree_mask rfl ?_))) ⟨vint (by omega), rfl, trivial⟩ ⟨hk', hsk, hx12.trans hxe⟩ (by show res.length - (k + 1) < res.length - k; omega)
      | false =>
        have hsk : decide (p.getD k 0 < nx.getD k 0) = upN p nx (k + 1) := by rw [hsu, ← hb]; simp
        refine d_move rfl ?_
        refine d_move rfl ?_
        refine d_move rfl ?_
        refine d_move rfl ?_
        refine d_iaI (n := k) rfl sl_ints ty_int rfl rfl hIn3 (by omega) ?_
        intro ad5 hc5
        refine d_ld rfl ty_int rfl hc5 ?_
        refine d_move rfl ?_
        refine d_move rfl ?_
        refine d_iaI (n := k) rfl sl_ints ty_int rfl rfl hIp3 (by omega) ?_
        intro ad6 hc6
        refine d_ld rfl ty_int rfl hc6 ?_
        refine d_gtr rfl rfl rfl ?_
        refine d_pickf rfl rfl rfl ?_
        refine d_assign rfl ?_
        refine d_nil ?_
        repeat (first | (refine isO ?_; first | refine s_move ?_ | refine s_assign ?_ | (refine isBin ?_; refine s_inc rfl (by omega) ?_)) | (refine isC ?_; refine c_region ?_) | (refine l_th ?_))
        exact loop_end (k + 1, _) (by (repeat (first | exact agree_refl _ _ | refine agree_upd rfl ?_ | refine agree_ext rfl ?_ | refine agree_mask rfl ?_))) ⟨vint (by omega), rfl, trivial⟩ ⟨hk', hsk, hx12.trans hxe⟩ (by show res.length - (k + 1) < res.length - k; omega)
    · have hkn : k = res.length := by omega
      subst hkn
      rw [hbu] at hb
      subst hb
      have hMW2 := hM.ex ((hx0W.trans hx1W).trans hx12)
      have hZW2 := hZW.ex (hx1W.trans hx12)
      have hmd := (mayP_D hck (lg_may hlg)).2
      repeat (first | (refine isO ?_; refine s_move ?_) | (refine isC ?_; first | refine c_sr ?_ | refine c_seq ?_ | refine c_exit ?_))
      refine s_neqb Try.underlying4 rfl rfl ?_
      refine s_re (v' := .bool false) (vbool (by simp)) ?_
      refine Or.elim hcase (fun hc => ?_) (fun hc => ?_)
      · have h0 := hc.1
        have h1 := hc.2.1
        have h2 := hc.2.2
        subst h0
        rw [h2] at hIn2
        repeat (first | (refine isO ?_; first | refine s_move ?_ | refine s_assign ?_ | refine s_not rfl ?_) | (refine isC ?_; first | refine c_sr ?_ | refine c_th ?_ | refine c_seq ?_ | refine c_region ?_ | refine c_iff rfl ?_) | (first | refine l_th ?_ | refine th_norm ?_ | refine ib_norm ?_ | refine l_nil ?_))
        exact loop_end (i + 1, _) (by (repeat (first | exact agree_refl _ _ | refine agree_upd rfl ?_ | refine agree_ext rfl ?_ | refine agree_mask rfl ?_))) ⟨rfl, trivial⟩ ⟨h1, hIn2, (hxW.trans hx1W).trans hx12⟩ (by show L.length - (i + 1) < L.length - i; omega)
      · have h0 := hc.1
        have h1 := hc.2.1
        subst h0
        have hpe : p = endL L := by rw [hp]; unfold endL; congr 1; omega
        have hfn : setR bids p res.length = none := by
          have h9 := hR.lst
          have e : L.length - 1 = i := by omega
          rw [e, ← hp] at h9
          exact step_none h9
        repeat (first | (refine isO ?_; first | refine s_move ?_ | refine s_not rfl ?_) | (refine isC ?_; first | refine c_sr ?_ | refine c_th ?_ | refine c_seq ?_ | refine c_ift rfl ?_ | refine c_iff rfl ?_) | (refine l_th ?_))
        refine s_ldV Try.underlying25 rfl (sz_mk _ _ _) rfl hZW2 ?_
        repeat ((refine isO ?_; refine s_move ?_))
        refine s_call ok_dAll rfl (dAll_ct rv bv ov pv res bids ord p W2 hMW2 hIp2 hck hmd) ?_
        rintro u W3 ⟨b1, b2, vs, rfl, hb1, hb2, hne, hA1, hA2, hvs, hx3⟩
        have hIp3 := hIp2.ex hx3
        have hIe3 := hIe2.ex hx3
        have l1 := hA1.lt
        have l2 := hA2.lt
        have z3 := hx3.size
        repeat (first | (refine isO ?_; first | refine s_move ?_ | refine s_assign ?_ | (refine isG ?_; refine g_yes rfl rfl ?_) | (refine isBin ?_; refine s_neqF rfl rfl (by omega) ?_) | (refine isCall ?_; refine s_len sl_rows rfl ?_) | refine s_extract rfl rfl ?_) | (refine isC ?_; first | refine c_sr ?_ | refine c_seq ?_) | (refine l_th ?_))
        refine s_len sl_bls rfl ?_
        repeat (first | (refine isO ?_; first | refine s_assign ?_ | (refine isG ?_; refine g_yes rfl rfl ?_) | (refine isBin ?_; refine s_neqF rfl rfl (by omega) ?_) | (refine isPick ?_; refine s_pickf rfl rfl ?_)) | (refine isC ?_; first | refine c_sr ?_ | refine c_th ?_ | refine c_seq ?_ | refine c_iff rfl ?_ | refine c_block ?_) | (refine l_th ?_))
        refine c_loop (γ := Nat × Value) 21777905329440588547171861899750630539264 (fun q => [(15, .int .i64 (q.1 : Int)), (14, q.2)]) (fun q V => q.1 ≤ bids.length ∧ (∃ us, At V b1 22 ((List.range bids.length).map us) ∧ ∀ j, j < bids.length → Ints V (us j) (if j < q.1 ∧ dG bids p j = 0 then [] else dI bids p j) ∧ ∀ b, (us j).ownBlock = some b → b ≠ b1 ∧ b < W3.heap.size) ∧ At V b2 4 ((List.range bids.length).map fun j => .bool (decide (dG bids p j = 0))) ∧ LI W3 V 3 q.2 (rowL q.1 (mustB bids p)) ∧ Ex W2 V ∧ W3.heap.size ≤ V.heap.size) (fun q => bids.length - q.1) (0, .slice none 0 0) ⟨rfl, rfl, trivial⟩
          ⟨Nat.zero_le _, ⟨vs, hA1, fun j hj => ⟨by rw [if_neg (by show ¬ (j < 0 ∧ _); omega)]; exact (hvs j hj).1, fun b hb => ((hvs j hj).2 b hb).2⟩⟩, hA2, LI.nil _ _ _, hx3, Nat.le_refl _⟩ ?_
        rintro ⟨k, mv⟩ ρ3 V ⟨hk0, hU, hA2V, hL0, hxV, hzV⟩
        have hk : k ≤ bids.length := hk0
        have hLV : LI W3 V 3 mv (rowL k (mustB bids p)) := hL0
        refine Exists.elim hU fun us hus0 => ?_
        have hus : At V b1 22 ((List.range bids.length).map us) ∧ ∀ j, j < bids.length → Ints V (us j) (if j < k ∧ dG bids p j = 0 then [] else dI bids p j) ∧ ∀ b, (us j).ownBlock = some b → b ≠ b1 ∧ b < W3.heap.size := hus0
        have hA1V := hus.1
        repeat (first | (refine isO ?_; refine s_move ?_) | (refine isC ?_; first | refine c_sr ?_ | refine c_seq ?_))
        refine s_len sl_bls rfl ?_
        repeat (first | (refine isO ?_; (refine isBin ?_; refine s_lss rfl rfl ?_)) | (refine l_th ?_))
        refine c_ifd rfl (fun h => ?_) (fun h => ?_)
        · have hk' : k < bids.length := by omega
          have hrs := rowL_snoc k (mustB bids p)
          have hkl : (rowL k (mustB bids p)).length ≤ 8 := by rw [rowL_len]; have := rowN_le k (mustB bids p); omega
          repeat (first | (refine isO ?_; refine s_move ?_) | (refine isC ?_; first | refine c_sr ?_ | refine c_th ?_ | refine c_seq ?_ | refine c_block ?_))
          refine s_iaA (n := k) sl_bls ty_bl rfl rfl hk' ?_
          refine s_ldA ty_bl rfl hA2V (u := .bool (decide (dG bids p k = 0))) (by simp [hk']) ?_
          repeat ((refine l_th ?_))
          refine c_ifd rfl (fun h0 => ?_) (fun h0 => ?_)
          · have hmf : mustB bids p k = false := by unfold mustB; simp [h0]
            rw [hmf] at hrs
            repeat (first | (refine isO ?_; refine s_move ?_) | (refine isC ?_; refine c_region ?_))
            refine s_iaA (n := k) sl_rows ty_ints rfl rfl hk' ?_
            refine s_stA (n := k) (u := .slice none 0 0) ty_ints rfl rfl rfl hA1V (by simp [hk']) ?_
            intro V1 hA11 hg1
            rw [map_fs _ _ hk'] at hA11
            have z4 := hg1.size
            repeat (first | (refine isO ?_; first | refine s_move ?_ | refine s_assign ?_ | (refine isBin ?_; refine s_inc rfl (by omega) ?_)) | (refine isC ?_; refine c_region ?_) | (first | refine l_th ?_ | refine l_nil ?_))
            refine loop_end (k + 1, mv) (by (repeat (first | exact agree_refl _ _ | refine agree_upd rfl ?_ | refine agree_ext rfl ?_ | refine agree_mask rfl ?_))) ⟨vint (by omega), rfl, trivial⟩ ⟨hk', ⟨_, hA11, fun j hj => ?_⟩, hA2V.grown hg1 (fun e => hne (Option.some.inj e)), ?_, hxV.store hg1 (by omega), by omega⟩ (by show bids.length - (k + 1) < bids.length - k; omega)
            · by_cases e : j = k
              · subst e
                simp only [fs, if_true]
                rw [if_pos ⟨Nat.lt_succ_self _, h0⟩]
                exact ⟨Ints.nil _, fun b hb => by cases hb⟩
              · simp only [fs, if_neg e]
                have h1 := hus.2 j hj
                have e2 : (j < k + 1 ∧ dG bids p j = 0) ↔ (j < k ∧ dG bids p j = 0) := ⟨fun ⟨a, b⟩ => ⟨by omega, b⟩, fun ⟨a, b⟩ => ⟨by omega, b⟩⟩
                simp only [e2]
                exact ⟨h1.1.kept hg1 (.inr fun e => (h1.2 b1 e).1 rfl), h1.2⟩
            · show LI W3 V1 _ mv (rowL (k + 1) (mustB bids p))
              rw [hrs]
              simp only [Bool.false_eq_true, if_false, List.append_nil]
              exact hLV.kept hg1 (.inr fun e => by have := hLV.2 b1 e; omega)
          · have hmf : mustB bids p k = true := by unfold mustB; simp [h0]
            rw [hmf] at hrs
            repeat (first | (refine isO ?_; refine s_move ?_) | (refine isC ?_; refine c_region ?_))
            refine s_bs1 sl_ints in_int rfl rfl ?_
            intro b7 V1 hb7 hA7 hx7 hs7
            refine s_app (news := [.int .i64 (k : Int)]) sl_ints in_int (hLV.1.ex hx7) (hA7.sl (Nat.le_refl _) (by simp) (by simp)) rfl rfl (by intro q hq; simp at hq; subst hq; rfl) (by simp; omega) ?_
            intro v' V2 hR2 hg2 hf2
            have z7 := hx7.size
            have z4 := hg2.size
            have hA12 := (hA1V.ex hx7).grown hg2 (fun e => by have := hLV.2 _ e; omega)
            have hA22 := (hA2V.ex hx7).grown hg2 (fun e => by have := hLV.2 _ e; omega)
            have hv2 : ∀ b, v'.ownBlock = some b → W3.heap.size ≤ b := fun b hb => hf2.elim (fun h => hLV.2 b (by rw [← h]; exact hb)) (fun h => by have := h b hb; omega)
            have hxV2 : Ex W2 V2 := (hxV.trans hx7).storeo hg2 (fun b e => by have := hLV.2 b e; omega)
            repeat (first | (refine isO ?_; first | refine s_move ?_ | refine s_assign ?_ | (refine isBin ?_; refine s_inc rfl (by omega) ?_)) | (refine isC ?_; refine c_region ?_) | (first | refine l_th ?_ | refine l_nil ?_))
            refine loop_end (k + 1, v') (by (repeat (first | exact agree_refl _ _ | refine agree_upd rfl ?_ | refine agree_ext rfl ?_ | refine agree_mask rfl ?_))) ⟨vint (by omega), rfl, trivial⟩ ⟨hk', ⟨us, hA12, fun j hj => ?_⟩, hA22, ?_, hxV2, by omega⟩ (by show bids.length - (k + 1) < bids.length - k; omega)
            · have h1 := hus.2 j hj
              have e2 : (j < k + 1 ∧ dG bids p j = 0) ↔ (j < k ∧ dG bids p j = 0) := ⟨fun ⟨a, b⟩ => ⟨by
                by_cases e : j = k
                · subst e; exact absurd b h0
                · omega, b⟩, fun ⟨a, b⟩ => ⟨by omega, b⟩⟩
              simp only [e2]
              refine ⟨?_, h1.2⟩
              cases e : mv.ownBlock with
              | none => exact (h1.1.ex hx7).ex (Ex.of_grown (e ▸ hg2))
              | some b => exact (h1.1.ex hx7).kept hg2 (.inr fun e2 => by rw [e] at e2; have := hLV.2 b e; have := (h1.2 b e2).2; omega)
            · show LI W3 V2 _ v' (rowL (k + 1) (mustB bids p))
              rw [hrs, if_pos rfl]
              exact ⟨by rw [List.map_append]; exact hR2, hv2⟩
        · have hkn : k = bids.length := by omega
          subst hkn
          have hRows : Rows V (sv b1 bids.length bids.length) (gL (RD bids p) bids.length res.length) := by
            have hgl := gL_len (RD bids p) bids.length res.length
            have h9 := hA1V.rows (g := gL (RD bids p) bids.length res.length) (c := bids.length) (by rw [gL_len]; simp) (by omega) (by omega) (fun i u l hu hl => by
              have hi := (List.getElem?_eq_some_iff.1 hl).1
              rw [gL_len] at hi
              have e1 : u = us i := by simp [hi] at hu; exact hu.symm
              have e2 : l = rowL res.length (RD bids p i) := by simp [gL, hi] at hl; exact hl.symm
              have h1 := (hus.2 i hi).1
              rw [e1, e2, ← wants_row bids p res.length i (hOK.lens i hi)]
              by_cases h0 : dG bids p i = 0
              · rw [if_pos ⟨hi, h0⟩] at h1; rw [if_pos h0]; exact h1
              · rw [if_neg (fun hh => h0 hh.2)] at h1; rw [if_neg h0]; exact h1)
            rw [hgl] at h9
            exact h9
          have hkl : (rowL bids.length (mustB bids p)).length ≤ 8 := by rw [rowL_len]; have := rowN_le bids.length (mustB bids p); omega
          have hIpV := hIp2.ex hxV
          have hIeV := hIe2.ex hxV
          have hImV : Ints V mv (rowL bids.length (mustB bids p)) := hLV.ints (by omega)
          have hx0V : Ex w V := ((hx0W.trans hx1W).trans hx12).trans hxV
          repeat (first | (refine isO ?_; first | refine s_move ?_ | (refine isCall ?_; refine s_lenI sl_ints rfl (by assumption) ?_)) | (refine isC ?_; first | refine c_sr ?_ | refine c_exit ?_))
          refine s_call (vs := [sv b1 bids.length bids.length, .int .i64 (p.length : Int), mv]) ok_Few rfl (by rw [hpl]; exact Few_none (R := RD bids p) (m := bids.length) (nn := res.length) hm8 hn8 _ mv _ V hRows hImV (ris_of hm8 _) hfn) ?_
          rintro u V4 ⟨rfl, hx4⟩
          repeat (first | (refine isO ?_; first | refine s_move ?_ | refine s_assign ?_ | (refine isG ?_; refine g_yes rfl rfl ?_) | (refine isBin ?_; refine s_eqlT rfl rfl (by omega) ?_) | (refine isPick ?_; refine s_pickt rfl rfl ?_) | refine s_extract rfl rfl ?_ | refine s_not rfl ?_) | (refine isC ?_; refine c_sr ?_) | (refine l_th ?_))
          refine s_call ok_SameInts rfl (SameInts_ct _ _ p (endL L) V4 (hIpV.ex hx4) (hIeV.ex hx4)) ?_
          rintro u V5 ⟨rfl, hx5⟩
          refine s_re (v' := .bool true) (vbool (decide_eq_true hpe)) ?_
          repeat ((refine isO ?_; first | refine s_move ?_ | (refine isG ?_; refine g_yes rfl rfl ?_) | (refine isPick ?_; refine s_pickt rfl rfl ?_)))
          refine s_call ok_lives rfl (lives_ct V5) ?_
          rintro u V6 ⟨rfl, hx6⟩
          repeat (first | (refine isO ?_; first | refine s_assign ?_ | (refine isPick ?_; refine s_pickt rfl rfl ?_)) | (refine isC ?_; refine c_ret ?_) | (first | refine l_th ?_ | refine th_ret ?_ | refine ib_ret ?_))
          exact ret1 rfl rfl ⟨rfl, hx0V.trans (hx4.trans (hx5.trans hx6))⟩
  · refine s_call ok_rLeast rfl (Least_bad rv bv ov res bids ord w0 hM0 hck) ?_
    rintro u w1 ⟨rfl, hx1⟩
    repeat (first | (refine isO ?_; first | refine s_move ?_ | refine s_assign ?_ | (refine isBin ?_; refine s_neqT rfl rfl (by omega) ?_) | refine s_extract rfl rfl ?_) | (refine isC ?_; first | refine c_sr ?_ | refine c_seq ?_ | refine c_ift rfl ?_) | (refine l_th ?_))
    refine s_ldV Try.underlying25 rfl (sz_mk _ _ _) rfl (hZ.ex hx1) ?_
    refine s_call ok_mcheck rfl (mcheck_ct rv bv ov res bids ord w1 (hM0.ex hx1)) ?_
    rintro u w2 ⟨rfl, hx2⟩
    refine s_re (v' := .bool false) (vbool hck) ?_
    repeat ((refine isO ?_; first | refine s_move ?_ | (refine isG ?_; refine g_yes rfl rfl ?_) | refine s_not rfl ?_))
    refine s_call ok_lives rfl (lives_ct w2) ?_
    rintro u w3 ⟨rfl, hx3⟩
    repeat (first | (refine isO ?_; first | refine s_assign ?_ | (refine isPick ?_; refine s_pickt rfl rfl ?_)) | (refine isC ?_; refine c_ret ?_) | (first | refine l_th ?_ | refine th_ret ?_))
    exact ret1 rfl rfl ⟨rfl, hx0.trans (hx1.trans (hx2.trans hx3))⟩
end Go.Proofs.Ytifbgpkjbciblaa.Sal
end
