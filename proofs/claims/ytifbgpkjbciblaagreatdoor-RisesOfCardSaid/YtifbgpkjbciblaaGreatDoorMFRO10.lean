/- Texts that YtifbgpkjbciblaaGreatDoorFRO leans on, laid together: RR4 BK1 BK2 BK3. -/
import Derived.Test.YtifbgpkjbciblaaGreatDoorMFRO9
import Derived.Test.YtifbgpkjbciblaaGreatDoorMFRO8
import Derived.Test.YtifbgpkjbciblaaGreatDoorMFRO7
import Derived.Test.YtifbgpkjbciblaaGreatDoorMFRO4
section
/- RR4: the document's step, and where it ends. -/
set_option maxRecDepth 100000
namespace Go.Proofs.YtifbgpkjbciblaaGreatDoor.Sal
open Go.RowKit
set_option linter.all false
theorem ok_Step13 : CallOK Tryz.prog 25 := callOK Tryz.func25 (by kernel_rfl) rfl
/-- What a step answers. -/
noncomputable def stepS (res : List Int) (bids : List (List Int)) (ord prices : List Int) : List Int × Bool × Int := if (chkM res bids ord && mayP res prices) = true then ((stepR bids prices res.length).getD prices, (stepR bids prices res.length).isSome, 0) else ([], false, 1)
theorem stepS_bad {res : List Int} {bids : List (List Int)} {ord prices : List Int} (h : (chkM res bids ord && mayP res prices) = false) : stepS res bids ord prices = ([], false, 1) := by unfold stepS; rw [h]; rfl
theorem stepS_ok {res : List Int} {bids : List (List Int)} {ord prices : List Int} (h : (chkM res bids ord && mayP res prices) = true) : stepS res bids ord prices = ((stepR bids prices res.length).getD prices, (stepR bids prices res.length).isSome, 0) := by unfold stepS; rw [if_pos h]
theorem mayP_len {res prices : List Int} (h : prices.length ≠ res.length) : mayP res prices = false := by unfold mayP; rw [decide_eq_false h]; rfl
theorem mayP_at {res prices : List Int} {k : Nat} (hk : k < prices.length) (h : prices.getD k 0 < res.getD k 0 ∨ 2000000 < prices.getD k 0) : mayP res prices = false := by
  unfold mayP
  rw [range_all_bad hk (by rcases h with h | h <;> simp only [Bool.and_eq_false_iff, decide_eq_false_iff_not] <;> omega), Bool.and_false]
theorem mayP_all {res prices : List Int} (hl : prices.length = res.length) (h : ∀ k, k < prices.length → res.getD k 0 ≤ prices.getD k 0 ∧ prices.getD k 0 ≤ 2000000) : mayP res prices = true := by
  unfold mayP
  rw [decide_eq_true hl, Bool.true_and, List.all_eq_true]
  intro k hk
  have := h k (List.mem_range.1 hk)
  rw [decide_eq_true this.1, decide_eq_true this.2]; rfl
attribute [local irreducible] Go.Code.wpIn Go.wpListIn Ct Ints Rows Sl At Rw WJ
attribute [local irreducible] Wd
set_option maxHeartbeats 8000000 in
theorem Step13_ct (rv bv ov pv : Value) (res : List Int) (bids : List (List Int)) (ord prices : List Int) (w : World) (hM : Mk w rv bv ov res bids ord) (hp : Ints w pv prices) :
    Ct Tryz.prog 25 #[.agg #[rv, bv, ov], pv] w fun u w' => ∃ v, u = .tuple #[v, .bool (stepS res bids ord prices).2.1, .int .i64 (stepS res bids ord prices).2.2] ∧ Ints w' v (stepS res bids ord prices).1 ∧ Ex w w' := by
  have hplen := hp.len
  refine enter (N := 237) (vs := [.agg #[rv, bv, ov], pv]) Tryz.func25 rfl rfl rfl ?_
  repeat ((refine isC ?_; refine c_sr ?_))
  refine s_box (cs := [rv, bv, ov]) rfl rfl ?_
  intro b0 w0 hb0 hZ hx0 hs0
  have hM0 := hM.ex hx0
  have hp0 := hp.ex hx0
  repeat (first | (refine isO ?_; refine s_assign ?_) | (refine isC ?_; first | refine c_sr ?_ | refine c_seq ?_) | (refine l_th ?_))
  refine s_ldV Tryz.underlying54 rfl (sz_mk _ _ _) rfl hZ ?_
  refine s_call ok_Check5 rfl (Check5_ct rv bv ov res bids ord w0 hM0) ?_
  rintro u w1 ⟨rfl, hx1⟩
  have hx01 := hx0.trans hx1
  refine Or.elim (tfV (chkM res bids ord)) (fun hck => ?_) (fun hck => ?_)
  · refine s_re (v' := .bool true) (vbool hck) ?_
    have hZ1 := hZ.ex hx1
    have hM1 := hM0.ex hx1
    have hp1 := hp0.ex hx1
    have hr1 := hM1.r
    have hOK := mkok hck
    have hn1 := hOK.n1
    have hn8 := hOK.n8
    have hm8 := hOK.m8
    by_cases hlen : prices.length = res.length
    · repeat (first | (refine isO ?_; first | refine s_move ?_ | refine s_assign ?_ | (refine isG ?_; refine g_yes rfl rfl ?_) | (refine isBin ?_; refine s_neqF rfl rfl (by omega) ?_) | (refine isCall ?_; refine s_lenI sl_ints rfl (by assumption) ?_) | (refine isPick ?_; refine s_pickf rfl rfl ?_) | (refine isLD ?_; refine s_ldA ty_ints rfl (by assumption) rfl ?_) | refine s_not rfl ?_) | (refine isO ?_; refine s_fa Tryz.underlying54 rfl ty_ints rfl ?_) | (refine isC ?_; first | refine c_sr ?_ | refine c_th ?_ | refine c_seq ?_ | refine c_iff rfl ?_ | refine c_block ?_) | (refine l_th ?_))
      refine c_loop (γ := Nat) 2305842734335787248 (fun k => [(7, .int .i64 (k : Int))]) (fun k W => k ≤ prices.length ∧ (∀ j, j < k → res.getD j 0 ≤ prices.getD j 0 ∧ prices.getD j 0 ≤ 2000000) ∧ Ex w1 W) (fun k => prices.length - k) 0 ⟨rfl, trivial⟩ ⟨Nat.zero_le _, fun j hj => absurd hj (Nat.not_lt_zero _), Ex.refl _⟩ ?_
      rintro k ρ W ⟨hk, hall, hx⟩
      have hZW := hZ1.ex hx
      have hpW := hp1.ex hx
      have hrW := hr1.ex hx
      repeat (first | (refine isO ?_; first | refine s_move ?_ | (refine isBin ?_; refine s_lss rfl rfl ?_) | (refine isCall ?_; refine s_lenI sl_ints rfl (by assumption) ?_)) | (refine isC ?_; first | refine c_sr ?_ | refine c_seq ?_) | (refine l_th ?_))
      refine c_ifd rfl (fun h => ?_) (fun h => ?_)
      · have hk' : k < prices.length := by omega
        repeat ((refine isC ?_; first | refine c_th ?_ | refine c_seq ?_ | refine c_block ?_))
        refine c_drawO (Ex.refl W) 0 8 [(0, true), (1, true), (2, true), (3, true), (4, true), (5, true), (6, true), (7, true), (8, true), (9, true), (10, true), (11, true), (12, true), (13, true), (14, true), (15, true), (16, true)] mixed (by kernel_rfl) ?_
        have hxd := Ex.drew W
        refine d_move rfl ?_
        refine d_move rfl ?_
        refine d_iaI (n := k) rfl sl_ints ty_int rfl rfl hpW hk' ?_
        intro ad1 hc1
        refine d_ld rfl ty_int rfl hc1 ?_
        refine d_fa rfl Tryz.underlying54 rfl ty_ints rfl ?_
        refine d_ldA rfl ty_ints rfl hZW rfl ?_
        refine d_move rfl ?_
        refine d_iaI (n := k) rfl sl_ints ty_int rfl rfl hrW (by omega) ?_
        intro ad2 hc2
        refine d_ld rfl ty_int rfl hc2 ?_
        refine d_lss rfl rfl rfl ?_
        by_cases h2 : prices.getD k 0 < res.getD k 0
        · refine d_re (v' := .bool true) (vbool (decide_eq_true h2)) ?_
          refine d_move rfl ?_
          iterate 5 refine d_gno rfl rfl rfl rfl ?_
          refine d_pickt rfl rfl rfl ?_
          refine d_nil ?_
          have hbad := stepS_bad (res := res) (bids := bids) (ord := ord) (prices := prices) (by rw [mayP_at hk' (.inl h2), Bool.and_false])
          repeat (first | (refine isO ?_; refine s_assign ?_) | (refine isC ?_; first | refine c_sr ?_ | refine c_ift rfl ?_ | refine c_ret ?_) | (first | refine l_th ?_ | refine th_ret ?_ | refine ib_ret ?_))
          exact ret3 rfl rfl rfl rfl ⟨.slice none 0 0, by rw [hbad]; rfl, by rw [hbad]; exact Ints.nil _, hx01.trans (hx.trans hxd)⟩
        · refine d_re (v' := .bool false) (vbool (decide_eq_false h2)) ?_
          refine d_move rfl ?_
          refine d_move rfl ?_
          refine d_move rfl ?_
          refine d_iaI (n := k) rfl sl_ints ty_int rfl rfl hpW hk' ?_
          intro ad3 hc3
          refine d_ld rfl ty_int rfl hc3 ?_
          refine d_gtr rfl rfl rfl ?_
          by_cases h3 : 2000000 < prices.getD k 0
          · refine d_re (v' := .bool true) (vbool (decide_eq_true h3)) ?_
            refine d_pickf rfl rfl rfl ?_
            refine d_nil ?_
            have hbad := stepS_bad (res := res) (bids := bids) (ord := ord) (prices := prices) (by rw [mayP_at hk' (.inr h3), Bool.and_false])
            repeat (first | (refine isO ?_; refine s_assign ?_) | (refine isC ?_; first | refine c_sr ?_ | refine c_ift rfl ?_ | refine c_ret ?_) | (first | refine l_th ?_ | refine th_ret ?_ | refine ib_ret ?_))
            exact ret3 rfl rfl rfl rfl ⟨.slice none 0 0, by rw [hbad]; rfl, by rw [hbad]; exact Ints.nil _, hx01.trans (hx.trans hxd)⟩
          · refine d_re (v' := .bool false) (vbool (decide_eq_false h3)) ?_
            refine d_pickf rfl rfl rfl ?_
            refine d_nil ?_
            repeat (first | (refine isO ?_; first | refine s_move ?_ | refine s_assign ?_ | (refine isBin ?_; refine s_inc rfl (by omega) ?_)) | (refine isC ?_; first | refine c_region ?_ | refine c_iff rfl ?_ | refine c_skip ?_) | (refine l_th ?_))
            refine loop_end (k + 1) (by (repeat (first | exact agree_refl _ _ | refine agree_upd rfl ?_ | refine agree_ext rfl ?_ | refine agree_mask rfl ?_))) ⟨vint (by omega), trivial⟩ ⟨hk', fun j hj => ?_, hx.trans hxd⟩ (by show prices.length - (k + 1) < prices.length - k; omega)
            by_cases e : j = k
            · subst e; omega
            · exact hall j (by omega)
      · have hmp := mayP_all hlen fun j hj => hall j (by omega)
        have hok := stepS_ok (res := res) (bids := bids) (ord := ord) (prices := prices) (by rw [hck, hmp]; rfl)
        rw [hok]
        have hmd := (mayP_D hck hmp).2
        have hbb := hOK.bb
        have hpb := bd_pr hmd
        have hMW := hM1.ex hx
        have hris := ris_of hm8 (mustB bids prices)
        have hrisl := ris_len hris
        have hdb : ∀ i, 0 ≤ dG bids prices i ∧ dG bids prices i ≤ 1000000 := dG_bd hbb hmd
        have hlens : ∀ i, i < bids.length → lenB bids i = 0 ∨ lenB bids i = prices.length := fun i hi => by rw [hlen]; exact hOK.lens i hi
        rw [← hlen] at hbb hn1 hn8 ⊢
        repeat ((refine isC ?_; first | refine c_sr ?_ | refine c_exit ?_))
        refine s_ldV Tryz.underlying54 rfl (sz_mk _ _ _) rfl hZW ?_
        repeat ((refine isO ?_; refine s_move ?_))
        refine s_call ok_All12 rfl (All12_ok rv bv ov pv res bids ord prices W hMW hpW hck hlen hmd) ?_
        rintro u w2 ⟨ga, na, rfl, hGA, hNA, hx2⟩
        have hdl := dL_len bids prices
        have hx12 := hx.trans hx2
        repeat (first | (refine isO ?_; first | refine s_move ?_ | refine s_assign ?_ | refine s_extract rfl rfl ?_) | (refine isC ?_; first | refine c_sr ?_ | refine c_seq ?_ | refine c_block ?_) | (refine l_th ?_))
        refine c_loop3 4951759861993615920243685376 (fun (i : Nat) (gv sv' : Value) => [(13, .int .i64 (i : Int)), (12, gv), (11, sv')]) (fun i gv sv' V => i ≤ bids.length ∧ (∃ vs : Nat → Value, B4 w2 V i (rowL i (mustB bids prices)).length gv sv' ((List.range i).map vs) ((rowL i (mustB bids prices)).map (Value.int .i64)) ∧ ∀ k, k < i → Ints w2 (vs k) (rowL prices.length (RD bids prices k))) ∧ Ex w2 V) (fun i _ _ => bids.length - i) 0 (.slice none 0 0) (.slice none 0 0) ⟨rfl, rfl, rfl, trivial⟩ ⟨Nat.zero_le _, ⟨fun _ => .bool false, B4.nil _ _, fun k hk => absurd hk (Nat.not_lt_zero _)⟩, Ex.refl _⟩ ?_
        rintro i gv sv' ρ2 V ⟨hi, hvs, hx2V⟩
        refine Exists.elim hvs fun vs h => ?_
        have hB := h.1
        have hRw := h.2
        have hmi : (rowL i (mustB bids prices)).length ≤ i := by rw [rowL_len]; exact rowN_le _ _
        have hGV := hGA.ex hx2V
        repeat (first | (refine isO ?_; first | refine s_move ?_ | (refine isBin ?_; refine s_lss rfl rfl ?_) | (refine isCall ?_; refine s_lenR sl_rows rfl (by assumption) ?_)) | (refine isC ?_; first | refine c_sr ?_ | refine c_seq ?_) | (refine l_th ?_))
        refine c_ifd rfl (fun h3 => ?_) (fun h3 => ?_)
        · have hi' : i < bids.length := by omega
          have hsn := rowL_snoc i (mustB bids prices)
          have hwr := wants_row bids prices prices.length i (hlens i hi')
          repeat (first | (refine isO ?_; refine s_move ?_) | (refine isC ?_; first | refine c_sr ?_ | refine c_th ?_ | refine c_seq ?_ | refine c_block ?_))
          refine s_ia (n := i) (u := .bool (decide (dG bids prices i = 0))) sl_bls ty_bl rfl rfl (hNA.ex hx2V) (by simp [hi']) ?_
          intro ad hc
          refine s_ld ty_bl rfl hc ?_
          by_cases hd : dG bids prices i = 0
          · refine s_re (v' := .bool true) (vbool (decide_eq_true hd)) ?_
            have hmu : mustB bids prices i = false := by unfold mustB; rw [decide_eq_true hd]; rfl
            rw [hmu, if_neg (by simp), List.append_nil] at hsn
            rw [if_pos hd] at hwr
            repeat (first | (refine isO ?_; refine s_move ?_) | (refine isC ?_; first | refine c_region ?_ | refine c_ift rfl ?_) | (refine l_th ?_))
            refine s_bs1 (u := .slice none 0 0) sl_rows in_ints rfl rfl ?_
            intro c1 V1 hc1 hA1 hx1V hs1V
            have hB1 := hB.ex hx1V
            have hx21 := hx2V.trans hx1V
            refine s_appW (m := 1) (news := [.slice none 0 0]) sl_rows wd_ints (by omega) hB1.g ⟨c1, 1, rfl, [], by simpa using hA1⟩ rfl (by omega) (by intro p hp; simp at hp; subst hp; rfl) (by omega) (by omega) rfl rfl ?_
            intro g' V2 hW2 hg2 hf2
            have hB2 := hB1.addG hx21.size hW2 hg2 hf2
            have hx22 := hx21.storeo hg2 hB1.go
            rw [mfs_app, ← hsn] at hB2
            repeat (first | (refine isO ?_; first | refine s_move ?_ | refine s_assign ?_ | (refine isBin ?_; refine s_inc rfl (by omega) ?_)) | (refine isC ?_; refine c_region ?_) | (first | refine l_th ?_ | refine l_nil ?_))
            refine loop_end3 (i + 1) g' sv' (by (repeat (first | exact agree_refl _ _ | refine agree_upd rfl ?_ | refine agree_ext rfl ?_ | refine agree_mask rfl ?_))) ⟨vint (by omega), rfl, rfl, trivial⟩ ⟨hi', ⟨_, hB2, fun k hk => ?_⟩, hx22⟩ (by show bids.length - (i + 1) < bids.length - i; omega)
            by_cases e : k = i
            · subst e
              simp only [fs, if_true]
              rw [← hwr]; exact Ints.nil _
            · simp only [fs, if_neg e]
              exact hRw k (by omega)
          · refine s_re (v' := .bool false) (vbool (decide_eq_false hd)) ?_
            have hmu : mustB bids prices i = true := by unfold mustB; rw [decide_eq_false hd]; rfl
            rw [hmu, if_pos rfl] at hsn
            rw [if_neg hd] at hwr
            repeat (first | (refine isO ?_; refine s_move ?_) | (refine isC ?_; first | refine c_sr ?_ | refine c_iff rfl ?_) | (refine l_th ?_))
            refine s_ixR0 sl_rows ty_ints hGA hx2V rfl rfl rfl (by omega) ?_
            intro _ u1 hu1
            rw [dL_get hi', hwr] at hu1
            have hu1o : u1.oneCell' = true := by obtain ⟨a, c, rfl⟩ := hu1.form; rfl
            refine s_bs1 (u := u1) sl_rows in_ints rfl hu1o ?_
            intro c1 V1 hc1 hA1 hx1V hs1V
            have hB1 := hB.ex hx1V
            have hx21 := hx2V.trans hx1V
            refine s_appW (m := 1) (news := [u1]) sl_rows wd_ints (by omega) hB1.g ⟨c1, 1, rfl, [], by simpa using hA1⟩ rfl (by omega) (by intro p hp; simp at hp; subst hp; exact hu1o) (by omega) (by omega) rfl rfl ?_
            intro g' V2 hW2 hg2 hf2
            have hB2 := hB1.addG hx21.size hW2 hg2 hf2
            have hx22 := hx21.storeo hg2 hB1.go
            rw [mfs_app] at hB2
            repeat (first | (refine isO ?_; first | refine s_move ?_ | refine s_assign ?_) | (refine isC ?_; refine c_region ?_) | (refine l_th ?_))
            refine s_bs1 (u := .int .i64 (i : Int)) sl_ints in_int rfl rfl ?_
            intro c2 V3 hc2 hA3 hx3V hs3V
            have hB3 := hB2.ex hx3V
            have hx23 := hx22.trans hx3V
            refine s_appW (m := 1) (news := [.int .i64 (i : Int)]) sl_ints wd_int (by omega) hB3.b ⟨c2, 1, rfl, [], by simpa using hA3⟩ rfl (by omega) (by intro p hp; simp at hp; subst hp; rfl) (by omega) (by omega) rfl rfl ?_
            intro s' V4 hW4 hg4 hf4
            have hB4 := hB3.addB hx23.size hW4 hg4 hf4
            have hx24 := hx23.storeo hg4 (fun b hb => (hB3.bo b hb).1)
            have hsl : (rowL i (mustB bids prices)).length + 1 = (rowL (i + 1) (mustB bids prices)).length := by rw [hsn]; simp
            have hsm : (rowL i (mustB bids prices)).map (Value.int .i64) ++ [.int .i64 (i : Int)] = (rowL (i + 1) (mustB bids prices)).map (Value.int .i64) := by rw [hsn, List.map_append]; rfl
            rw [hsl, hsm] at hB4
            repeat (first | (refine isO ?_; first | refine s_move ?_ | refine s_assign ?_ | (refine isBin ?_; refine s_inc rfl (by omega) ?_)) | (refine isC ?_; refine c_region ?_) | (first | refine l_th ?_ | refine l_nil ?_))
            refine loop_end3 (i + 1) g' s' (by (repeat (first | exact agree_refl _ _ | refine agree_upd rfl ?_ | refine agree_ext rfl ?_ | refine agree_mask rfl ?_))) ⟨vint (by omega), rfl, rfl, trivial⟩ ⟨hi', ⟨_, hB4, fun k hk => ?_⟩, hx24⟩ (by show bids.length - (i + 1) < bids.length - i; omega)
            by_cases e : k = i
            · subst e
              simp only [fs, if_true]
              exact hu1
            · simp only [fs, if_neg e]
              exact hRw k (by omega)
        · have hin : i = bids.length := by omega
          subst hin
          have hGr : Rows V gv (gL (RD bids prices) bids.length prices.length) := hB.g.rows (gL_len _ _ _) (by omega) fun k hk => by rw [gL_row hk]; exact (hRw k hk).ex hx2V
          refine Exists.elim (show ∃ M, M = rowL bids.length (mustB bids prices) from ⟨_, rfl⟩) fun M hMd => ?_
          have hSm : Ints V sv' M := by rw [hMd]; exact hB.b.ints (by omega)
          have hx1V := hx12.trans hx2V
          have hpV := hp1.ex hx1V
          have hMl : M.length ≤ 8 := by rw [hMd]; omega
          have hlj : ∀ j, j < M.length → prices.length ≤ lenB bids (M.getD j 0).toNat := fun j hj => by
            rw [hMd] at hj ⊢
            obtain ⟨i, h1, h2, h3⟩ := must_at hj
            rw [h1, Int.toNat_natCast]
            have := (must_wants (hlens i h2) h3).1
            omega
          have hglen := gL_len (RD bids prices) bids.length prices.length
          clear hGV
          repeat (first | (refine isO ?_; refine s_move ?_) | (refine isC ?_; first | refine c_sr ?_ | refine c_exit ?_))
          refine s_lapp sl_ints in_int (LI.nil V V _) hpV rfl rfl (by simp; omega) (Ex.refl V) ?_
          intro outv V3 hLo hx3V
          rw [List.nil_append] at hLo
          have hp3 := hpV.ex hx3V
          refine Exists.elim (hLo.own (fun e => by rw [e] at hn1; simp at hn1) (by omega)) fun ob hob => Exists.elim hob fun oc hoc => ?_
          have hov := hoc.1
          have hO3 := hoc.2.1
          have hobl := hoc.2.2
          have hFew := Few9_okW (R := RD bids prices) (m := bids.length) (n := prices.length) hm8 hn8 gv sv' (rowL bids.length (mustB bids prices)) V3 (hGr.ex hx3V) (by rw [← hMd]; exact hSm.ex hx3V) hris
          rw [show fewR (RD bids prices) bids.length prices.length (rowL bids.length (mustB bids prices)) = setR bids prices prices.length from rfl] at hFew
          have hx03 := hx01.trans (hx1V.trans hx3V)
          repeat (first | (refine isO ?_; first | refine s_move ?_ | refine s_assign ?_ | (refine isCall ?_; refine s_lenI sl_ints rfl (by assumption) ?_)) | (refine isC ?_; refine c_sr ?_) | (refine l_th ?_))
          refine Or.elim (opt9 (setR bids prices prices.length)) (fun hset => ?_) (fun hset => Exists.elim hset fun set hset => ?_)
          · have hst : stepR bids prices prices.length = none := by unfold stepR; rw [hset]
            rw [hset] at hFew
            simp only [Option.isSome_none, Option.isSome_some, Option.getD_none, Option.getD_some] at hFew
            refine s_call ok_Few9 rfl hFew ?_
            rintro u V4 ⟨fv, rfl, hF, hFo, hx4⟩
            have e1 : (stepR bids prices prices.length).isSome = false := by rw [hst]; rfl
            have e2 : Ints V4 outv ((stepR bids prices prices.length).getD prices) := by rw [hst]; exact (hLo.ints (by omega)).ex hx4
            repeat (first | (refine isO ?_; first | refine s_move ?_ | refine s_assign ?_ | refine s_extract rfl rfl ?_ | refine s_not rfl ?_) | (refine isC ?_; first | refine c_sr ?_ | refine c_seq ?_ | refine c_ift rfl ?_ | refine c_ret ?_) | (first | refine l_th ?_ | refine th_ret ?_))
            exact ret3 rfl rfl rfl rfl ⟨outv, congrArg (fun b => Value.tuple #[outv, .bool b, .int .i64 0]) e1.symm, e2, hx03.trans hx4⟩
          · have hrs := (far_ne hn8 hm8 hset).1
            have hfn := (far_ne hn8 hm8 hset).2
            have hst : stepR bids prices prices.length = some (raise prices set (farBy bids prices set prices.length (rowL bids.length (mustB bids prices)))) := by unfold stepR; rw [hset]
            have hfar := byJ_far (bids := bids) (prices := prices) (set := set) (n := prices.length) (m := bids.length) (p := mustB bids prices) (by rw [← hMd]; exact hlj) hfn
            have hsl := ris_len hrs
            rw [← hfar] at hst
            rw [← hMd] at hst
            rw [hset] at hFew
            simp only [Option.isSome_none, Option.isSome_some, Option.getD_none, Option.getD_some] at hFew
            refine s_call ok_Few9 rfl hFew ?_
            rintro u V4 ⟨fv, rfl, hF, hFo, hx4⟩
            have hF' : Ints V4 fv set := hF
            have hx34 := hx3V.trans hx4
            have hS4 := hSm.ex hx34
            have hp4 := hpV.ex hx34
            have hx14 := hx1V.trans hx34
            have hZ4 := hZ1.ex hx14
            have hb4 := hM1.b.ex hx14
            repeat (first | (refine isO ?_; first | refine s_move ?_ | refine s_assign ?_ | refine s_extract rfl rfl ?_ | refine s_not rfl ?_) | (refine isC ?_; first | refine c_sr ?_ | refine c_th ?_ | refine c_seq ?_ | refine c_iff rfl ?_ | refine c_block ?_) | (refine l_th ?_))
            refine c_loop2 52656145834278593348959013841835135029809133093592859838217191424 (fun (j : Nat) (x : Int) => [(19, .int .i64 (j : Int)), (18, .int .i64 x)]) (fun j x Y => j ≤ M.length ∧ x = byJ bids prices set prices.length M j ∧ Ex V4 Y) (fun j _ => M.length - j) 0 (-1) ⟨rfl, rfl, trivial⟩ ⟨Nat.zero_le _, rfl, Ex.refl _⟩ ?_
            rintro j x ρ3 Y ⟨hj, hxj, hxY⟩
            have hSY := hS4.ex hxY
            repeat (first | (refine isO ?_; first | refine s_move ?_ | (refine isBin ?_; refine s_lss rfl rfl ?_) | (refine isCall ?_; refine s_lenI sl_ints rfl (by assumption) ?_)) | (refine isC ?_; first | refine c_sr ?_ | refine c_seq ?_) | (refine l_th ?_))
            refine c_ifd rfl (fun h4 => ?_) (fun h4 => ?_)
            · have hj' : j < M.length := by omega
              have hmat : ∃ i : Nat, M.getD j 0 = (i : Int) ∧ i < bids.length ∧ mustB bids prices i = true := by rw [hMd] at hj' ⊢; exact must_at hj'
              refine Exists.elim hmat fun i hia => ?_
              have hgi := hia.1
              have him := hia.2.1
              have hmu := hia.2.2
              have hbyn : byJ bids prices set prices.length M (j + 1) = if elseB bids prices set prices.length i = true then x else if x < 0 ∨ farJ bids prices set i prices.length < x then farJ bids prices set i prices.length else x := by
                rw [hxj]
                show (if elseB bids prices set prices.length (M.getD j 0).toNat = true then _ else _) = _
                rw [hgi, Int.toNat_natCast]
              repeat (first | (refine isO ?_; first | refine s_move ?_ | refine s_assign ?_ | (refine isIA ?_; refine s_ixI sl_ints ty_int rfl rfl rfl (by assumption) (by omega) ?_; intro _)) | (refine isC ?_; first | refine c_sr ?_ | refine c_th ?_ | refine c_seq ?_ | refine c_block ?_) | (refine l_th ?_))
              refine c_loop2 174224488786770756736005742517124063035392 (fun (k : Nat) (b : Bool) => [(22, .int .i64 (k : Int)), (21, .bool b)]) (fun k b U => k ≤ (rowL prices.length (RD bids prices i)).length ∧ b = ((rowL prices.length (RD bids prices i)).take k).all (fun q => set.contains q) ∧ Ex Y U) (fun k _ => (rowL prices.length (RD bids prices i)).length - k) 0 true ⟨rfl, rfl, trivial⟩ ⟨Nat.zero_le _, rfl, Ex.refl _⟩ ?_
              rintro k b ρ4 U ⟨hk, hb, hxU⟩
              have hxVU := hx34.trans (hxY.trans hxU)
              have hrl8 : (rowL prices.length (RD bids prices i)).length ≤ prices.length := by rw [rowL_len]; exact rowN_le _ _
              repeat (first | (refine isO ?_; refine s_move ?_) | (refine isC ?_; first | refine c_sr ?_ | refine c_seq ?_))
              refine s_ixR0 sl_rows ty_ints hGr hxVU rfl rfl (vint hgi) (by omega) ?_
              intro _ u1 hu1
              rw [gL_row him] at hu1
              have hu1U := hu1.ex hxVU
              repeat (first | (refine isO ?_; first | (refine isBin ?_; refine s_lss rfl rfl ?_) | (refine isCall ?_; refine s_lenI sl_ints rfl (by assumption) ?_)) | (refine l_th ?_))
              refine c_ifd rfl (fun h5 => ?_) (fun h5 => ?_)
              · have hk' : k < (rowL prices.length (RD bids prices i)).length := by omega
                have hsn := all_snoc (rowL prices.length (RD bids prices i)) (fun q => set.contains q) hk'
                rw [← hb] at hsn
                cases b with
                | true =>
                  rw [Bool.true_and] at hsn
                  repeat (first | (refine isO ?_; first | refine s_move ?_ | (refine isG ?_; refine g_yes rfl rfl ?_)) | (refine isC ?_; first | refine c_th ?_ | refine c_seq ?_ | refine c_region ?_ | refine c_block ?_))
                  refine s_iaR (n := i) sl_rows ty_ints hGr hxVU rfl (vint hgi) (by omega) ?_
                  intro ad u2 hc2 hu2
                  rw [gL_row him] at hu2
                  refine g_yes rfl rfl ?_
                  refine s_ld ty_ints rfl hc2 ?_
                  repeat ((refine isO ?_; first | refine s_move ?_ | (refine isG ?_; refine g_yes rfl rfl ?_)))
                  refine s_ixIg (n := k) sl_ints ty_int rfl rfl rfl rfl rfl rfl hu2 hk' ?_
                  intro _
                  repeat ((refine isO ?_; (refine isG ?_; refine g_yes rfl rfl ?_)))
                  refine s_call ok_in13 rfl (in13_ct fv set ((rowL prices.length (RD bids prices i)).getD k 0) U (hF'.ex (hxY.trans hxU))) ?_
                  rintro u U2 ⟨rfl, hx2U⟩
                  repeat (first | (refine isO ?_; first | refine s_move ?_ | refine s_assign ?_ | (refine isBin ?_; refine s_inc rfl (by omega) ?_) | (refine isPick ?_; refine s_pickt rfl rfl ?_)) | (refine isC ?_; refine c_region ?_) | (first | refine l_th ?_ | refine l_nil ?_))
                  exact loop_end2 (k + 1) (set.contains ((rowL prices.length (RD bids prices i)).getD k 0)) (by (repeat (first | exact agree_refl _ _ | refine agree_upd rfl ?_ | refine agree_ext rfl ?_ | refine agree_mask rfl ?_))) ⟨vint (by omega), rfl, trivial⟩ ⟨hk', hsn.symm, hxU.trans hx2U⟩ (by show (rowL prices.length (RD bids prices i)).length - (k + 1) < (rowL prices.length (RD bids prices i)).length - k; omega)
                | false =>
                  rw [Bool.false_and] at hsn
                  repeat (first | (refine isO ?_; first | refine s_move ?_ | refine s_assign ?_ | (refine isG ?_; refine g_no rfl rfl rfl ?_) | (refine isBin ?_; refine s_inc rfl (by omega) ?_) | (refine isPick ?_; refine s_pickf rfl rfl ?_)) | (refine isC ?_; first | refine c_th ?_ | refine c_seq ?_ | refine c_region ?_ | refine c_block ?_) | (first | refine l_th ?_ | refine l_nil ?_))
                  exact loop_end2 (k + 1) false (by (repeat (first | exact agree_refl _ _ | refine agree_upd rfl ?_ | refine agree_ext rfl ?_ | refine agree_mask rfl ?_))) ⟨vint (by omega), rfl, trivial⟩ ⟨hk', hsn.symm, hxU⟩ (by show (rowL prices.length (RD bids prices i)).length - (k + 1) < (rowL prices.length (RD bids prices i)).length - k; omega)
              · have hkr : k = (rowL prices.length (RD bids prices i)).length := by omega
                rw [hkr, List.take_length, else_all] at hb
                have hxYU := hxY.trans hxU
                cases b with
                | false =>
                  have he : elseB bids prices set prices.length i = true := by simpa using hb.symm
                  rw [if_pos he] at hbyn
                  repeat (first | (refine isO ?_; first | refine s_move ?_ | refine s_assign ?_ | (refine isBin ?_; refine s_inc rfl (by omega) ?_) | refine s_not rfl ?_) | (refine isC ?_; first | refine c_sr ?_ | refine c_seq ?_ | refine c_region ?_ | refine c_ift rfl ?_ | refine c_exit ?_) | (refine l_th ?_))
                  exact loop_end2 (j + 1) x (by (repeat (first | exact agree_refl _ _ | refine agree_upd rfl ?_ | refine agree_ext rfl ?_ | refine agree_mask rfl ?_))) ⟨vint (by omega), rfl, trivial⟩ ⟨hj', hbyn.symm, hxYU⟩ (by show M.length - (j + 1) < M.length - j; omega)
                | true =>
                  have he : elseB bids prices set prices.length i = false := by simpa using hb.symm
                  rw [if_neg (by rw [he]; simp)] at hbyn
                  refine Exists.elim (want_first (hlens i him) hmu) fun k0 hk0 => ?_
                  have h0 := hk0.1
                  have hk0n := hk0.2.1
                  have hgd := hk0.2.2.1
                  have hr0 := hk0.2.2.2
                  have hli : lenB bids i = prices.length := (must_wants (hlens i him) hmu).1
                  have hli' : (bids.getD i []).length = prices.length := hli
                  have hbk := bd_bid (hbb i him)
                  have hdi := hdb i
                  have hGU := hGr.ex hxVU
                  have hbU := hb4.ex hxYU
                  have hZU := hZ4.ex hxYU
                  have hpU := hp4.ex hxYU
                  have hFU := hF'.ex hxYU
                  have hbk0 := hbk k0
                  have hpk0 := hpb k0
                  unfold gD at hgd
                  have hgu := gL_row (R := RD bids prices) (n := prices.length) him
                  repeat (first | (refine isO ?_; first | refine s_move ?_ | refine s_not rfl ?_) | (refine isC ?_; first | refine c_sr ?_ | refine c_th ?_ | refine c_seq ?_ | refine c_iff rfl ?_ | refine c_exit ?_) | (refine l_th ?_))
                  refine c_drawO (Ex.refl U) 0 8 [(0, true), (1, true), (2, true), (3, true), (4, true), (5, true), (6, true), (7, true), (8, true), (9, true), (10, true), (11, true), (12, true), (13, true), (14, true), (15, true), (16, true), (17, true), (18, true), (19, true), (20, true), (21, true), (22, true), (23, true)] mixed (by kernel_rfl) ?_
                  have hxd := Ex.drew U
                  refine d_fa rfl Tryz.underlying54 rfl ty_rows rfl ?_
                  refine d_ldA rfl ty_rows rfl hZU rfl ?_
                  refine d_move rfl ?_
                  refine d_iaR (n := i) rfl sl_rows ty_ints rfl (vint hgi) hbU him ?_
                  intro ad1 y1 hc1 hy1
                  refine d_ld rfl ty_ints rfl hc1 ?_
                  refine d_move rfl ?_
                  refine d_move rfl ?_
                  refine d_iaR (n := i) rfl sl_rows ty_ints rfl (vint hgi) hGU (by omega) ?_
                  intro ad2 y2 hc2 hy2
                  rw [hgu] at hy2
                  refine d_ld rfl ty_ints rfl hc2 ?_
                  refine d_iaI (n := 0) rfl sl_ints ty_int rfl rfl hy2 hr0 ?_
                  intro ad3 hc3
                  refine d_ld rfl ty_int rfl hc3 ?_
                  refine d_iaI (n := k0) rfl sl_ints ty_int rfl (vint h0) hy1 (by omega) ?_
                  intro ad4 hc4
                  refine d_ld rfl ty_int rfl hc4 ?_
                  refine d_move rfl ?_
                  refine d_move rfl ?_
                  refine d_move rfl ?_
                  refine d_iaR (n := i) rfl sl_rows ty_ints rfl (vint hgi) hGU (by omega) ?_
                  intro ad5 y5 hc5 hy5
                  rw [hgu] at hy5
                  refine d_ld rfl ty_ints rfl hc5 ?_
                  refine d_iaI (n := 0) rfl sl_ints ty_int rfl rfl hy5 hr0 ?_
                  intro ad6 hc6
                  refine d_ld rfl ty_int rfl hc6 ?_
                  refine d_iaI (n := k0) rfl sl_ints ty_int rfl (vint h0) hpU hk0n ?_
                  intro ad7 hc7
                  refine d_ld rfl ty_int rfl hc7 ?_
                  refine d_sub rfl rfl rfl ⟨by omega, by omega⟩ ?_
                  refine d_re (v' := .int .i64 (dG bids prices i)) (vint hgd) ?_
                  refine d_assign rfl ?_
                  refine d_nil ?_
                  have hZd := hZU.ex hxd
                  have hbd := hbU.ex hxd
                  have hpd := hpU.ex hxd
                  have hFd := hFU.ex hxd
                  repeat (first | (refine isO ?_; first | refine s_move ?_ | refine s_assign ?_) | (refine isC ?_; first | refine c_sr ?_ | refine c_seq ?_ | refine c_block ?_) | (refine l_th ?_))
                  refine c_loop2 205688069665139063256272500596323183644180252940040235508563968 (fun (q : Nat) (x2 : Int) => [(25, .int .i64 (q : Int)), (24, .int .i64 x2)]) (fun q x2 T => q ≤ prices.length ∧ x2 = farJ bids prices set i q ∧ Ex U.drew T) (fun q _ => prices.length - q) 0 (dG bids prices i) ⟨rfl, rfl, trivial⟩ ⟨Nat.zero_le _, rfl, Ex.refl _⟩ ?_
                  rintro q x2 ρ5 T ⟨hq, hx2, hxT⟩
                  have hZT := hZd.ex hxT
                  have hbT := hbd.ex hxT
                  have hpT := hpd.ex hxT
                  have hFT := hFd.ex hxT
                  repeat (first | (refine isO ?_; first | refine s_move ?_ | (refine isBin ?_; refine s_lss rfl rfl ?_) | (refine isCall ?_; refine s_lenI sl_ints rfl (by assumption) ?_)) | (refine isC ?_; first | refine c_sr ?_ | refine c_seq ?_) | (refine l_th ?_))
                  refine c_ifd rfl (fun h6 => ?_) (fun h6 => ?_)
                  · have hq' : q < prices.length := by omega
                    have hbq := hbk q
                    have hpq := hpb q
                    have hfn' := farJ_nn (bids := bids) (prices := prices) (set := set) (i := i) (q := q) (by omega)
                    have hfl := (farJ_le bids prices set i q).1
                    have hgq : gD bids prices i q = (bids.getD i []).getD q 0 - prices.getD q 0 := rfl
                    have hfs : farJ bids prices set i (q + 1) = if set.contains (q : Int) = false ∧ dG bids prices i - gD bids prices i q < x2 then dG bids prices i - gD bids prices i q else x2 := by rw [hx2]; rfl
                    rw [← hx2] at hfn' hfl
                    repeat ((refine isC ?_; first | refine c_th ?_ | refine c_seq ?_ | refine c_block ?_))
                    refine c_drawO (Ex.refl T) 0 8 [(0, true), (1, true), (2, false), (3, true), (4, true), (5, true), (6, true), (7, true), (8, true), (9, true), (10, true), (11, true), (12, true), (13, true), (14, true), (15, true), (16, true), (17, true), (18, true), (19, true), (20, true), (21, true), (22, true)] mixed (by kernel_rfl) ?_
                    have hxe := Ex.drew T
                    refine d_move rfl ?_
                    refine d_move rfl ?_
                    refine d_ch rfl ?_
                    refine s_call ok_in13 rfl (in13_ct fv set (q : Int) T.drew (hFT.ex hxe)) ?_
                    rintro u T1 ⟨rfl, hy1T⟩
                    have hxT1 := hxe.trans hy1T
                    refine l_nil ⟨rfl, .inr hxT1, ?_⟩
                    refine d_not rfl rfl ?_
                    refine Or.elim (tfV (set.contains (q : Int))) (fun hsc => ?_) (fun hsc => ?_)
                    · refine d_re (v' := .bool false) (vbool (by rw [hsc]; rfl)) ?_
                      rw [if_neg (by rw [hsc]; simp)] at hfs
                      refine d_move rfl ?_
                      iterate 17 refine d_gno rfl rfl rfl rfl ?_
                      refine d_pickf rfl rfl rfl ?_
                      refine d_nil ?_
                      repeat (first | (refine isO ?_; first | refine s_move ?_ | refine s_assign ?_ | (refine isBin ?_; refine s_inc rfl (by omega) ?_)) | (refine isC ?_; first | refine c_region ?_ | refine c_iff rfl ?_ | refine c_skip ?_) | (refine l_th ?_))
                      exact loop_end2 (q + 1) x2 (by (repeat (first | exact agree_refl _ _ | refine agree_upd rfl ?_ | refine agree_ext rfl ?_ | refine agree_mask rfl ?_))) ⟨vint (by omega), rfl, trivial⟩ ⟨hq', hfs.symm, hxT.trans hxT1⟩ (by show prices.length - (q + 1) < prices.length - q; omega)
                    · refine d_re (v' := .bool true) (vbool (by rw [hsc]; rfl)) ?_
                      refine d_move rfl ?_
                      refine d_move rfl ?_
                      refine d_fa rfl Tryz.underlying54 rfl ty_rows rfl ?_
                      refine d_ldA rfl ty_rows rfl hZT rfl ?_
                      refine d_move rfl ?_
                      refine d_iaR (n := i) rfl sl_rows ty_ints rfl (vint hgi) hbT him ?_
                      intro ad8 y8 hc8 hy8
                      refine d_ld rfl ty_ints rfl hc8 ?_
                      refine d_move rfl ?_
                      refine d_iaI (n := q) rfl sl_ints ty_int rfl rfl hy8 (by omega) ?_
                      intro ad9 hc9
                      refine d_ld rfl ty_int rfl hc9 ?_
                      refine d_move rfl ?_
                      refine d_move rfl ?_
                      refine d_iaI (n := q) rfl sl_ints ty_int rfl rfl hpT hq' ?_
                      intro ad10 hc10
                      refine d_ld rfl ty_int rfl hc10 ?_
                      refine d_sub rfl rfl rfl ⟨by omega, by omega⟩ ?_
                      refine d_sub rfl rfl rfl ⟨by omega, by omega⟩ ?_
                      refine d_move rfl ?_
                      refine d_lss rfl rfl rfl ?_
                      by_cases hlt : dG bids prices i - ((bids.getD i []).getD q 0 - prices.getD q 0) < x2
                      · refine d_re (v' := .bool true) (vbool (decide_eq_true hlt)) ?_
                        rw [if_pos ⟨hsc, by omega⟩] at hfs
                        refine d_pickt rfl rfl rfl ?_
                        refine d_nil ?_
                        have hZ1' := hZT.ex hxT1
                        have hb1' := hbT.ex hxT1
                        have hp1' := hpT.ex hxT1
                        repeat ((refine isC ?_; refine c_ift rfl ?_))
                        refine c_drawO (Ex.refl T1) 0 8 [(0, true), (1, true), (2, true), (3, true), (4, true), (5, true), (6, true), (7, true), (8, true), (9, true), (10, true), (11, true), (12, true), (13, true), (14, true), (15, true)] mixed (by kernel_rfl) ?_
                        have hxf := Ex.drew T1
                        refine d_move rfl ?_
                        refine d_fa rfl Tryz.underlying54 rfl ty_rows rfl ?_
                        refine d_ldA rfl ty_rows rfl hZ1' rfl ?_
                        refine d_move rfl ?_
                        refine d_iaR (n := i) rfl sl_rows ty_ints rfl (vint hgi) hb1' him ?_
                        intro ad11 y11 hc11 hy11
                        refine d_ld rfl ty_ints rfl hc11 ?_
                        refine d_move rfl ?_
                        refine d_iaI (n := q) rfl sl_ints ty_int rfl rfl hy11 (by omega) ?_
                        intro ad12 hc12
                        refine d_ld rfl ty_int rfl hc12 ?_
                        refine d_move rfl ?_
                        refine d_move rfl ?_
                        refine d_iaI (n := q) rfl sl_ints ty_int rfl rfl hp1' hq' ?_
                        intro ad13 hc13
                        refine d_ld rfl ty_int rfl hc13 ?_
                        refine d_sub rfl rfl rfl ⟨by omega, by omega⟩ ?_
                        refine d_sub rfl rfl rfl ⟨by omega, by omega⟩ ?_
                        refine d_assign rfl ?_
                        refine d_nil ?_
                        repeat (first | (refine isO ?_; first | refine s_move ?_ | refine s_assign ?_ | (refine isBin ?_; refine s_inc rfl (by omega) ?_)) | (refine isC ?_; refine c_region ?_) | (refine l_th ?_))
                        exact loop_end2 (q + 1) (dG bids prices i - ((bids.getD i []).getD q 0 - prices.getD q 0)) (by (repeat (first | exact agree_refl _ _ | refine agree_upd rfl ?_ | refine agree_ext rfl ?_ | refine agree_mask rfl ?_))) ⟨vint (by omega), rfl, trivial⟩ ⟨hq', by omega, (hxT.trans hxT1).trans hxf⟩ (by show prices.length - (q + 1) < prices.length - q; omega)
                      · refine d_re (v' := .bool false) (vbool (decide_eq_false hlt)) ?_
                        rw [if_neg (fun h => hlt (by have := h.2; omega))] at hfs
                        refine d_pickt rfl rfl rfl ?_
                        refine d_nil ?_
                        repeat (first | (refine isO ?_; first | refine s_move ?_ | refine s_assign ?_ | (refine isBin ?_; refine s_inc rfl (by omega) ?_)) | (refine isC ?_; first | refine c_region ?_ | refine c_iff rfl ?_ | refine c_skip ?_) | (refine l_th ?_))
                        exact loop_end2 (q + 1) x2 (by (repeat (first | exact agree_refl _ _ | refine agree_upd rfl ?_ | refine agree_ext rfl ?_ | refine agree_mask rfl ?_))) ⟨vint (by omega), rfl, trivial⟩ ⟨hq', hfs.symm, hxT.trans hxT1⟩ (by show prices.length - (q + 1) < prices.length - q; omega)
                  · have hqn : q = prices.length := by omega
                    rw [hqn] at hx2
                    rw [← hx2] at hbyn
                    have hxYT := hxYU.trans (hxd.trans hxT)
                    by_cases hx0 : x < 0
                    · rw [if_pos (.inl hx0)] at hbyn
                      repeat (first | (refine isO ?_; first | refine s_move ?_ | refine s_assign ?_ | (refine isG ?_; refine g_no rfl rfl rfl ?_) | (refine isBin ?_; first | refine s_inc rfl (by omega) ?_ | refine s_lssT rfl rfl (by omega) ?_) | (refine isPick ?_; refine s_pickt rfl rfl ?_)) | (refine isC ?_; first | refine c_sr ?_ | refine c_region ?_ | refine c_ift rfl ?_ | refine c_exit ?_) | (first | refine l_th ?_ | refine l_nil ?_))
                      exact loop_end2 (j + 1) x2 (by (repeat (first | exact agree_refl _ _ | refine agree_upd rfl ?_ | refine agree_ext rfl ?_ | refine agree_mask rfl ?_))) ⟨vint (by omega), rfl, trivial⟩ ⟨hj', hbyn.symm, hxYT⟩ (by show M.length - (j + 1) < M.length - j; omega)
                    · by_cases hx1' : x2 < x
                      · rw [if_pos (.inr hx1')] at hbyn
                        repeat (first | (refine isO ?_; first | refine s_move ?_ | refine s_assign ?_ | (refine isG ?_; refine g_yes rfl rfl ?_) | (refine isBin ?_; first | refine s_inc rfl (by omega) ?_ | refine s_lssT rfl rfl (by omega) ?_ | refine s_lssF rfl rfl (by omega) ?_) | (refine isPick ?_; refine s_pickf rfl rfl ?_)) | (refine isC ?_; first | refine c_sr ?_ | refine c_region ?_ | refine c_ift rfl ?_ | refine c_exit ?_) | (first | refine l_th ?_ | refine l_nil ?_))
                        exact loop_end2 (j + 1) x2 (by (repeat (first | exact agree_refl _ _ | refine agree_upd rfl ?_ | refine agree_ext rfl ?_ | refine agree_mask rfl ?_))) ⟨vint (by omega), rfl, trivial⟩ ⟨hj', hbyn.symm, hxYT⟩ (by show M.length - (j + 1) < M.length - j; omega)
                      · rw [if_neg (fun h => h.elim hx0 hx1')] at hbyn
                        repeat (first | (refine isO ?_; first | refine s_move ?_ | refine s_assign ?_ | (refine isG ?_; refine g_yes rfl rfl ?_) | (refine isBin ?_; first | refine s_inc rfl (by omega) ?_ | refine s_lssF rfl rfl (by omega) ?_) | (refine isPick ?_; refine s_pickf rfl rfl ?_)) | (refine isC ?_; first | refine c_sr ?_ | refine c_region ?_ | refine c_iff rfl ?_ | refine c_exit ?_ | refine c_skip ?_) | (refine l_th ?_))
                        exact loop_end2 (j + 1) x (by (repeat (first | exact agree_refl _ _ | refine agree_upd rfl ?_ | refine agree_ext rfl ?_ | refine agree_mask rfl ?_))) ⟨vint (by omega), rfl, trivial⟩ ⟨hj', hbyn.symm, hxYT⟩ (by show M.length - (j + 1) < M.length - j; omega)
            · have hje : j = M.length := by omega
              rw [hje] at hxj
              rw [← hxj] at hst
              have hxbd := byJ_bd (bids := bids) (prices := prices) (set := set) (n := prices.length) (must := M) hdb hlj M.length (Nat.le_refl _)
              rw [← hxj] at hxbd
              have hOY := (hO3.ex hx4).ex hxY
              have hFY := hF'.ex hxY
              have hFo' : ∀ b, fv.ownBlock = some b → b ≠ ob := fun b hb => by have h1 := hFo b hb; have h2 := hO3.lt; omega
              have e0 : raise prices (set.take 0) x = prices := by rw [List.take_zero]; exact raise_nil _ _
              have hxVY := hx34.trans hxY
              have e1 : (stepR bids prices prices.length).isSome = true := by rw [hst]; rfl
              have e2 : (stepR bids prices prices.length).getD prices = raise prices set x := by rw [hst]; rfl
              subst hov
              repeat (first | (refine isO ?_; refine s_assign ?_) | (refine isC ?_; first | refine c_sr ?_ | refine c_seq ?_ | refine c_block ?_ | refine c_exit ?_) | (refine l_th ?_))
              refine c_loop (γ := Nat) 110427888892503186320362744837418565404001584107178484608044760492408832 (fun k => [(26, .int .i64 (k : Int))]) (fun k Z => k ≤ set.length ∧ OwnI Z 3 ob oc (raise prices (set.take k) x) ∧ Ints Z fv set ∧ Ex V Z) (fun k => set.length - k) 0 ⟨rfl, trivial⟩ ⟨Nat.zero_le _, by rw [e0]; exact hOY, hFY, hxVY⟩ ?_
              rintro k ρ6 Z ⟨hk, hO, hI, hxZ⟩
              repeat (first | (refine isO ?_; first | refine s_move ?_ | (refine isBin ?_; refine s_lss rfl rfl ?_) | (refine isCall ?_; refine s_lenI sl_ints rfl (by assumption) ?_)) | (refine isC ?_; first | refine c_sr ?_ | refine c_seq ?_) | (refine l_th ?_))
              refine c_ifd rfl (fun h6 => ?_) (fun h6 => ?_)
              · have hk' : k < set.length := by omega
                refine Exists.elim (ris_at hrs hk') fun q hqq => ?_
                have hq := hqq.1
                have hqn := hqq.2
                have hrl := raise_len prices (set.take k) x
                have hsu := raise_succ (x := x) hrs hk' hq hqn
                have hrg : -10000000 ≤ (raise prices (set.take k) x).getD q 0 ∧ (raise prices (set.take k) x).getD q 0 ≤ 10000000 := by
                  rw [raise_get hqn]
                  have := hpb q
                  split <;> omega
                have hOi := hO.ints
                rw [hrl] at hOi
                repeat ((refine isC ?_; first | refine c_th ?_ | refine c_seq ?_ | refine c_block ?_))
                refine c_drawO (Ex.refl Z) 32768 8 [(0, true), (1, true), (2, true), (3, true), (4, true), (5, true), (6, true), (7, true), (8, true), (9, true), (10, true), (11, true), (12, true), (13, true), (14, true), (15, false)] mixed (by kernel_rfl) ?_
                have hxd := Ex.drew Z
                refine d_move rfl ?_
                refine d_move rfl ?_
                refine d_move rfl ?_
                refine d_iaI (n := k) rfl sl_ints ty_int rfl rfl hI hk' ?_
                intro ad1 hc1
                refine d_ld rfl ty_int rfl hc1 ?_
                refine d_move rfl ?_
                refine d_move rfl ?_
                refine d_move rfl ?_
                refine d_iaI (n := k) rfl sl_ints ty_int rfl rfl hI hk' ?_
                intro ad2 hc2
                refine d_ld rfl ty_int rfl hc2 ?_
                refine d_iaI (n := q) rfl sl_ints ty_int rfl (vint hq) hOi (by omega) ?_
                intro ad3 hc3
                refine d_ld rfl ty_int rfl hc3 ?_
                refine d_move rfl ?_
                refine d_add rfl rfl rfl ⟨by omega, by omega⟩ ?_
                refine d_iaA (n := q) rfl sl_ints ty_int rfl (vint hq) hqn ?_
                refine d_ch rfl ?_
                refine s_stO (q := (raise prices (set.take k) x).getD q 0 + x) ty_int rfl rfl (hO.ex hxd) (by omega) ?_
                intro Z1 hO1 hg1
                refine l_nil ⟨rfl, .inl rfl, ?_⟩
                refine d_nil ?_
                rw [hsu] at hO1
                repeat (first | (refine isO ?_; first | refine s_move ?_ | refine s_assign ?_ | (refine isBin ?_; refine s_inc rfl (by omega) ?_)) | (refine isC ?_; refine c_region ?_) | (refine l_th ?_))
                exact loop_end (k + 1) (by (repeat (first | exact agree_refl _ _ | refine agree_upd rfl ?_ | refine agree_ext rfl ?_ | refine agree_mask rfl ?_))) ⟨vint (by omega), trivial⟩ ⟨hk', hO1, (hI.ex hxd).kept hg1 (.inr fun e => hFo' ob e rfl), (hxZ.trans hxd).store hg1 hobl⟩ (by show set.length - (k + 1) < set.length - k; omega)
              · have hke : k = set.length := by omega
                rw [hke, List.take_of_length_le (Nat.le_refl _)] at hO
                have hOi := hO.ints
                rw [raise_len] at hOi
                repeat (first | (refine isO ?_; first | refine s_move ?_ | refine s_assign ?_) | (refine isC ?_; first | refine c_sr ?_ | refine c_ret ?_ | refine c_exit ?_) | (refine l_th ?_))
                exact ret3 rfl rfl rfl rfl ⟨sv ob prices.length oc, congrArg (fun b => Value.tuple #[sv ob prices.length oc, .bool b, .int .i64 0]) e1.symm, e2 ▸ hOi, hx01.trans (hx1V.trans hxZ)⟩
    · repeat (first | (refine isO ?_; first | refine s_move ?_ | refine s_assign ?_ | (refine isG ?_; refine g_yes rfl rfl ?_) | (refine isBin ?_; refine s_neqT rfl rfl (by omega) ?_) | (refine isCall ?_; refine s_lenI sl_ints rfl (by assumption) ?_) | (refine isPick ?_; refine s_pickf rfl rfl ?_) | (refine isLD ?_; refine s_ldA ty_ints rfl (by assumption) rfl ?_) | refine s_not rfl ?_) | (refine isO ?_; refine s_fa Tryz.underlying54 rfl ty_ints rfl ?_) | (refine isC ?_; first | refine c_sr ?_ | refine c_ift rfl ?_ | refine c_ret ?_) | (first | refine l_th ?_ | refine th_ret ?_))
      have hbad := stepS_bad (res := res) (bids := bids) (ord := ord) (prices := prices) (by rw [mayP_len hlen, Bool.and_false])
      exact ret3 rfl rfl rfl rfl ⟨.slice none 0 0, by rw [hbad]; rfl, by rw [hbad]; exact Ints.nil _, hx01⟩
  · refine s_re (v' := .bool false) (vbool hck) ?_
    repeat (first | (refine isO ?_; first | refine s_move ?_ | refine s_assign ?_ | (refine isG ?_; refine g_no rfl rfl rfl ?_) | (refine isPick ?_; refine s_pickt rfl rfl ?_) | refine s_not rfl ?_) | (refine isC ?_; first | refine c_sr ?_ | refine c_ift rfl ?_ | refine c_ret ?_) | (first | refine l_th ?_ | refine th_ret ?_))
    have hbad := stepS_bad (res := res) (bids := bids) (ord := ord) (prices := prices) (by rw [hck]; rfl)
    exact ret3 rfl rfl rfl rfl ⟨.slice none 0 0, by rw [hbad]; rfl, by rw [hbad]; exact Ints.nil _, hx01⟩
end Go.Proofs.YtifbgpkjbciblaaGreatDoor.Sal
end
section
/- The Book of salesroomlaw01: what lies where; keep. -/
set_option maxRecDepth 100000
namespace Go.Proofs.YtifbgpkjbciblaaGreatDoor.Sal
open Go.RowKit
set_option linter.all false
/-! ### What turns, but for some blocks -/
structure KtS (S : Nat → Prop) (w w' : World) : Prop where
  os : w'.os = w.os
  tape : w'.tape = w.tape
  output : w'.output = w.output
  size : w.heap.size ≤ w'.heap.size
  block : ∀ k, k < w.heap.size → ¬ S k → w'.heap[k]? = w.heap[k]?
theorem KtS.refl (S : Nat → Prop) (w : World) : KtS S w w := ⟨rfl, rfl, rfl, Nat.le_refl _, fun _ _ _ => rfl⟩
theorem KtS.trans {S : Nat → Prop} {a b c : World} (h : KtS S a b) (k : KtS S b c) : KtS S a c := ⟨k.os.trans h.os, k.tape.trans h.tape, k.output.trans h.output, Nat.le_trans h.size k.size, fun q hq hn => (k.block q (Nat.lt_of_lt_of_le hq h.size) hn).trans (h.block q hq hn)⟩
theorem KtS.mono {S S' : Nat → Prop} {a b : World} (h : KtS S a b) (hs : ∀ k, S k → S' k) : KtS S' a b := ⟨h.os, h.tape, h.output, h.size, fun q hq hn => h.block q hq (fun e => hn (hs q e))⟩
theorem KtS.of_ex {S : Nat → Prop} {a b : World} (h : Ex a b) : KtS S a b := ⟨h.os, h.tape, h.output, h.size, fun q hq _ => h.block q hq⟩
theorem KtS.of_grown {S : Nat → Prop} {a b : World} {o : Option Nat} (h : a.grownBy b o) (hs : ∀ k, o = some k → S k) : KtS S a b := ⟨h.os, h.tape, h.output, h.size, fun q hq hn => h.block q hq (fun e => hn (hs q e.symm))⟩
/-- The set may grow by blocks that were not there. -/
theorem KtS.later {S S' : Nat → Prop} {a b c : World} (h : KtS S a b) (k : KtS S' b c) (hs : ∀ q, S' q → S q ∨ a.heap.size ≤ q) : KtS S a c :=
  ⟨k.os.trans h.os, k.tape.trans h.tape, k.output.trans h.output, Nat.le_trans h.size k.size, fun q hq hn => (k.block q (Nat.lt_of_lt_of_le hq h.size) (fun e => by rcases hs q e with e | e; exact hn e; omega)).trans (h.block q hq hn)⟩
theorem KtS.ex {S : Nat → Prop} {w0 a b : World} (h : Ex w0 a) (k : KtS S a b) (hs : ∀ q, S q → w0.heap.size ≤ q) : Ex w0 b :=
  ⟨k.os.trans h.os, k.tape.trans h.tape, k.output.trans h.output, Nat.le_trans h.size k.size, fun q hq => (k.block q (Nat.lt_of_lt_of_le hq h.size) (fun e => by have := hs q e; omega)).trans (h.block q hq)⟩
theorem Wd.kt {S : Nat → Prop} {w w' : World} {E : TypeId} {s n : Nat} {v : Value} {xs : List Value} (h : Wd w E s v n xs) (k : KtS S w w') (hs : ∀ b, v.ownBlock = some b → ¬ S b) : Wd w' E s v n xs := h.kept fun b hb hl => k.block b hl (hs b hb)
theorem At.kt {S : Nat → Prop} {w w' : World} {E : TypeId} {b : Nat} {cs : List Value} (h : At w b E cs) (k : KtS S w w') (hs : ¬ S b) : At w' b E cs := (k.block b h.lt hs).trans h
/-! ### What is held -/
def nilV : Value := .slice none 0 0
/-- The cells of what is held. -/
def flat3 (L G : Nat → Value) : List Nat → List Value
  | [] => []
  | q :: ns => L q :: G q :: .int .i64 (q : Int) :: flat3 L G ns
theorem flat3_len (L G : Nat → Value) : ∀ ns, (flat3 L G ns).length = ns.length * 3
  | [] => rfl
  | q :: ns => by simp [flat3, flat3_len L G ns]; omega
theorem flat3_app (L G : Nat → Value) : ∀ (ns ms : List Nat), flat3 L G (ns ++ ms) = flat3 L G ns ++ flat3 L G ms
  | [], ms => rfl
  | q :: ns, ms => by simp [flat3, flat3_app L G ns ms]
theorem flat3_get (L G : Nat → Value) : ∀ (ns : List Nat) (i : Nat) (q : Nat), ns[i]? = some q → ∀ j v, [L q, G q, Value.int .i64 (q : Int)][j]? = some v → (flat3 L G ns)[i * 3 + j]? = some v
  | p :: ns, 0, q, h, j, v, hj => by
    simp at h; subst h
    match j with
    | 0 => simpa [flat3] using hj
    | 1 => simpa [flat3] using hj
    | 2 => simpa [flat3] using hj
    | j + 3 => simp at hj
  | p :: ns, i + 1, q, h, j, v, hj => by
    have ih := flat3_get L G ns i q (by simpa using h) j v hj
    have e : (i + 1) * 3 + j = (i * 3 + j) + 3 := by omega
    rw [e]
    simpa [flat3] using ih
theorem flat3_congr {L G L' G' : Nat → Value} : ∀ (ns : List Nat), (∀ q ∈ ns, L q = L' q ∧ G q = G' q) → flat3 L G ns = flat3 L' G' ns
  | [], _ => rfl
  | q :: ns, h => by
    have h1 := h q (by simp)
    simp [flat3, h1.1, h1.2, flat3_congr ns (fun p hp => h p (by simp [hp]))]
def fset1 (G : Nat → Value) (q : Nat) (v : Value) (p : Nat) : Value := if p = q then v else G p
theorem flat3_set (L G : Nat → Value) (v : Value) : ∀ (ns : List Nat) (i q : Nat), ns.Nodup → ns[i]? = some q → (flat3 L G ns).set (i * 3 + 1) v = flat3 L (fset1 G q v) ns
  | p :: ns, 0, q, hn, h => by
    simp at h; subst h
    rw [List.nodup_cons] at hn
    have := flat3_congr (L := L) (G := fset1 G p v) (L' := L) (G' := G) ns (fun x hx => ⟨rfl, by unfold fset1; rw [if_neg (fun e : x = p => hn.1 (by rw [← e]; exact hx))]⟩)
    simp [flat3, this, fset1]
  | p :: ns, i + 1, q, hn, h => by
    rw [List.nodup_cons] at hn
    have hq : q ∈ ns := List.mem_iff_getElem?.2 ⟨i, by simpa using h⟩
    have ih := flat3_set L G v ns i q hn.2 (by simpa using h)
    have e : (i + 1) * 3 + 1 = (i * 3 + 1) + 3 := by omega
    have e2 : fset1 G q v p = G p := by unfold fset1; rw [if_neg (fun e : p = q => hn.1 (by rw [e]; exact hq))]
    rw [e]
    simp [flat3, ih, e2]
def bkc (M : Nat) (vi vl : Value) : List Value := [.int .i64 (M : Int), nilV, vi, nilV, vl, nilV, nilV, nilV, nilV, nilV]
attribute [local irreducible] Go.Code.wpIn Go.wpListIn Ct Ints Rows Sl At Rw WJ
attribute [local irreducible] Wd
theorem ok_keepInt : CallOK Tryz.prog 43 := callOK Tryz.func43 (by kernel_rfl) rfl
theorem ok_keepIntList : CallOK Tryz.prog 42 := callOK Tryz.func42 (by kernel_rfl) rfl
theorem in_w {P : Program} {E : TypeId} {s B : Nat} {z : Value} (h : (P.info? E).map (fun i => (i.zero, i.size, i.bytes)) = some (some z, s, B)) (hz : z.cells.size = s) : InfoW P E s z B := by
  cases hi : P.info? E with
  | none => rw [hi] at h; cases h
  | some ti =>
    rw [hi] at h
    simp only [Option.map_some, Option.some.injEq, Prod.mk.injEq] at h
    exact ⟨⟨ti, hi, h.1, h.2.1, by omega⟩, hz⟩
theorem in_heldInt : InfoW Tryz.prog 107 3 (.agg #[.slice none 0 0, .slice none 0 0, .int .i64 0]) 56 := in_w (by kernel_rfl) rfl
theorem in_heldIntList : InfoW Tryz.prog 105 3 (.agg #[.slice none 0 0, .slice none 0 0, .int .i64 0]) 56 := in_w (by kernel_rfl) rfl
theorem sl_hi : SlT Tryz.prog 37 107 := Tryz.underlying37
theorem sl_hl : SlT Tryz.prog 39 105 := Tryz.underlying39
theorem ty_hi : Ty1 Tryz.prog 37 := ⟨let ⟨i, h, _, hs, _⟩ := info_parts (show (Tryz.prog.info? 37).map (fun i => (i.zero, i.size, i.bytes)) = some (some (.slice none 0 0), 1, 24) by kernel_rfl); ⟨i, h, hs⟩, _, Tryz.underlying37, rfl⟩
theorem ty_hl : Ty1 Tryz.prog 39 := ⟨let ⟨i, h, _, hs, _⟩ := info_parts (show (Tryz.prog.info? 39).map (fun i => (i.zero, i.size, i.bytes)) = some (some (.slice none 0 0), 1, 24) by kernel_rfl); ⟨i, h, hs⟩, _, Tryz.underlying39, rfl⟩
theorem built_hi (a : Option Addr) (n c : Nat) (q : Int) : Tryz.prog.built 107 [(0, .slice a n c), (2, .int .i64 q)] = some [.slice a n c, .slice none 0 0, .int .i64 q].toArray := by kernel_rfl
theorem built_hl (a : Option Addr) (n c : Nat) (q : Int) : Tryz.prog.built 105 [(0, .slice a n c), (2, .int .i64 q)] = some [.slice a n c, .slice none 0 0, .int .i64 q].toArray := by kernel_rfl
theorem keepInt_ct (bk M n : Nat) (xs : List Value) (vi vl : Value) (a : Option Addr) (k c : Nat) (w : World) (hA : At w bk 46 (bkc M vi vl)) (hW : Wd w 107 3 vi n xs) (hne : ∀ b, vi.ownBlock = some b → b ≠ bk) (hM : M ≤ 100000) (hn : n ≤ 100000) :
    Ct Tryz.prog 43 #[.pointer (some ⟨bk, 0, none⟩), .slice a k c] w fun u w' => u = .tuple #[] ∧ ∃ vi', At w' bk 46 (bkc (M + 1) vi' vl) ∧ Wd w' 107 3 vi' (n + 1) (xs ++ [.slice a k c, nilV, .int .i64 ((M + 1 : Nat) : Int)]) ∧ (vi'.ownBlock = vi.ownBlock ∨ ∀ b, vi'.ownBlock = some b → w.heap.size ≤ b) ∧ KtS (fun b => b = bk ∨ vi.ownBlock = some b) w w' := by
  refine enter (N := 26) (vs := [.pointer (some ⟨bk, 0, none⟩), .slice a k c]) Tryz.func43 rfl rfl rfl ?_
  repeat (first | (refine isO ?_; refine s_move ?_) | (refine isC ?_; refine c_sr ?_))
  refine s_nil rfl ?_
  refine s_faN Tryz.underlying46 rfl ty_int.n rfl ?_
  refine s_ldA ty_int rfl hA rfl ?_
  repeat ((refine isO ?_; (refine isBin ?_; refine s_inc rfl (by omega) ?_)))
  refine s_nil rfl ?_
  refine s_faN Tryz.underlying46 rfl ty_int.n rfl ?_
  refine s_stA (n := 0) (u := .int .i64 ((M + 1 : Nat) : Int)) ty_int rfl (vint (by omega)) rfl hA (by simp [bkc]) ?_
  intro w1 hA1 hg1
  have hA1' : At w1 bk 46 (bkc (M + 1) vi vl) := hA1
  have hW1 := hW.grown hg1 (fun b hb e => hne b hb (Option.some.inj e).symm)
  repeat ((refine l_th ?_))
  refine c_drawJ (fun W' => At W' bk 46 (bkc (M + 1) vi vl)) (hA1'.ex (Ex.drew w1)) 32768 8 [(0, true), (1, true), (2, true), (3, true), (4, true), (5, true), (6, true), (7, true), (8, true), (9, true), (10, false), (11, false), (12, false), (13, true), (14, true), (15, false)] mixed (by kernel_rfl) ?_
  refine d_move rfl ?_
  refine d_move rfl ?_
  refine d_nilc rfl rfl ?_
  refine d_faN rfl Tryz.underlying46 rfl ty_hi.n rfl ?_
  refine d_ldJ rfl ty_hi rfl (fun _ h => h) rfl ?_
  refine d_move rfl ?_
  refine d_move rfl ?_
  refine d_nilc rfl rfl ?_
  refine d_faN rfl Tryz.underlying46 rfl ty_int.n rfl ?_
  refine d_ldJ rfl ty_int rfl (fun _ h => h) rfl ?_
  refine d_ch rfl ?_
  refine s_bldW (cells := [.slice a k c, .slice none 0 0, .int .i64 ((M + 1 : Nat) : Int)]) (built_hi a k c _) ?_
  refine l_nil ⟨rfl, .inr (hA1'.ex (Ex.drew w1)), ?_⟩
  refine d_ch rfl ?_
  refine s_bsV3 sl_hi in_heldInt rfl ?_
  intro b2 w2 hb2 hA2 hx2 hs2
  have hx12 := (Ex.drew w1).trans hx2
  refine l_nil ⟨rfl, .inr (hA1'.ex hx12), ?_⟩
  refine d_ch rfl ?_
  refine s_appW (n := n) (m := 1) (news := [.slice a k c, .slice none 0 0, .int .i64 ((M + 1 : Nat) : Int)]) sl_hi in_heldInt (by omega) (hW1.ex hx12) ⟨b2, 1, rfl, [], by simpa using hA2⟩ rfl (by omega) (by intro u hu; simp at hu; rcases hu with rfl | rfl | rfl <;> rfl) (by omega) (by omega) rfl rfl ?_
  intro vi' w3 hW3 hg3 hf3'
  have hf3 : vi'.ownBlock = vi.ownBlock ∨ ∀ b, vi'.ownBlock = some b → w2.heap.size ≤ b := hf3'.imp (fun ⟨a, c, h1, h2⟩ => by rw [h1, h2]; cases a <;> rfl) (fun h => h.1)
  have hne3 : ∀ b, vi.ownBlock = some b → b ≠ bk := hne
  have hA3 := (hA1'.ex hx12).grown hg3 (fun e => hne bk e rfl)
  refine l_nil ⟨rfl, .inr hA3, ?_⟩
  refine d_nilc rfl rfl ?_
  refine d_faN rfl Tryz.underlying46 rfl ty_hi.n rfl ?_
  refine d_ch rfl ?_
  refine s_stA (n := 2) (u := vi') ty_hi rfl rfl hW3.one hA3 (by simp [bkc]) ?_
  intro w4 hA4 hg4
  refine l_nil ⟨rfl, .inl rfl, ?_⟩
  refine d_nil ?_
  have z1 := hg1.size
  have z12 := hx12.size
  have z3 := hg3.size
  have hown : vi'.ownBlock = vi.ownBlock ∨ ∀ b, vi'.ownBlock = some b → w.heap.size ≤ b := hf3.imp id (fun h b hb => by have := h b hb; omega)
  have hbk := hA.lt
  refine end0 rfl ⟨rfl, vi', hA4, hW3.grown hg4 (fun b hb e => ?_), hown, ?_⟩
  · have e' := Option.some.inj e
    rcases hown with he | hf
    · exact hne b (he ▸ hb) e'.symm
    · have := hf b hb; omega
  · have k1 : KtS (fun b => b = bk ∨ vi.ownBlock = some b) w w1 := KtS.of_grown hg1 (fun q e => .inl (Option.some.inj e).symm)
    have k2 : KtS (fun b => b = bk ∨ vi.ownBlock = some b) w1 w2 := KtS.of_ex hx12
    have k3 : KtS (fun b => b = bk ∨ vi.ownBlock = some b) w2 w3 := KtS.of_grown hg3 (fun q e => .inr e)
    have k4 : KtS (fun b => b = bk ∨ vi.ownBlock = some b) w3 w4 := KtS.of_grown hg4 (fun q e => .inl (Option.some.inj e).symm)
    exact ((k1.trans k2).trans k3).trans k4
end Go.Proofs.YtifbgpkjbciblaaGreatDoor.Sal
end
section
/- The Book of salesroomlaw01: keep, Ints, IntLists. -/
set_option maxRecDepth 100000
namespace Go.Proofs.YtifbgpkjbciblaaGreatDoor.Sal
open Go.RowKit
attribute [local irreducible] Go.Code.wpIn Go.wpListIn Ct Ints Rows Sl At Rw WJ
attribute [local irreducible] Wd
set_option linter.all false
theorem keepIntList_ct (bk M n : Nat) (xs : List Value) (vi vl : Value) (a : Option Addr) (k c : Nat) (w : World) (hA : At w bk 46 (bkc M vl vi)) (hW : Wd w 105 3 vi n xs) (hne : ∀ b, vi.ownBlock = some b → b ≠ bk) (hM : M ≤ 100000) (hn : n ≤ 100000) :
    Ct Tryz.prog 42 #[.pointer (some ⟨bk, 0, none⟩), .slice a k c] w fun u w' => u = .tuple #[] ∧ ∃ vi', At w' bk 46 (bkc (M + 1) vl vi') ∧ Wd w' 105 3 vi' (n + 1) (xs ++ [.slice a k c, nilV, .int .i64 ((M + 1 : Nat) : Int)]) ∧ (vi'.ownBlock = vi.ownBlock ∨ ∀ b, vi'.ownBlock = some b → w.heap.size ≤ b) ∧ KtS (fun b => b = bk ∨ vi.ownBlock = some b) w w' := by
  refine enter (N := 26) (vs := [.pointer (some ⟨bk, 0, none⟩), .slice a k c]) Tryz.func42 rfl rfl rfl ?_
  repeat (first | (refine isO ?_; refine s_move ?_) | (refine isC ?_; refine c_sr ?_))
  refine s_nil rfl ?_
  refine s_faN Tryz.underlying46 rfl ty_int.n rfl ?_
  refine s_ldA ty_int rfl hA rfl ?_
  repeat ((refine isO ?_; (refine isBin ?_; refine s_inc rfl (by omega) ?_)))
  refine s_nil rfl ?_
  refine s_faN Tryz.underlying46 rfl ty_int.n rfl ?_
  refine s_stA (n := 0) (u := .int .i64 ((M + 1 : Nat) : Int)) ty_int rfl (vint (by omega)) rfl hA (by simp [bkc]) ?_
  intro w1 hA1 hg1
  have hA1' : At w1 bk 46 (bkc (M + 1) vl vi) := hA1
  have hW1 := hW.grown hg1 (fun b hb e => hne b hb (Option.some.inj e).symm)
  repeat ((refine l_th ?_))
  refine c_drawJ (fun W' => At W' bk 46 (bkc (M + 1) vl vi)) (hA1'.ex (Ex.drew w1)) 32768 8 [(0, true), (1, true), (2, true), (3, true), (4, true), (5, true), (6, true), (7, true), (8, true), (9, true), (10, false), (11, false), (12, false), (13, true), (14, true), (15, false)] mixed (by kernel_rfl) ?_
  refine d_move rfl ?_
  refine d_move rfl ?_
  refine d_nilc rfl rfl ?_
  refine d_faN rfl Tryz.underlying46 rfl ty_hl.n rfl ?_
  refine d_ldJ rfl ty_hl rfl (fun _ h => h) rfl ?_
  refine d_move rfl ?_
  refine d_move rfl ?_
  refine d_nilc rfl rfl ?_
  refine d_faN rfl Tryz.underlying46 rfl ty_int.n rfl ?_
  refine d_ldJ rfl ty_int rfl (fun _ h => h) rfl ?_
  refine d_ch rfl ?_
  refine s_bldW (cells := [.slice a k c, .slice none 0 0, .int .i64 ((M + 1 : Nat) : Int)]) (built_hl a k c _) ?_
  refine l_nil ⟨rfl, .inr (hA1'.ex (Ex.drew w1)), ?_⟩
  refine d_ch rfl ?_
  refine s_bsV3 sl_hl in_heldIntList rfl ?_
  intro b2 w2 hb2 hA2 hx2 hs2
  have hx12 := (Ex.drew w1).trans hx2
  refine l_nil ⟨rfl, .inr (hA1'.ex hx12), ?_⟩
  refine d_ch rfl ?_
  refine s_appW (n := n) (m := 1) (news := [.slice a k c, .slice none 0 0, .int .i64 ((M + 1 : Nat) : Int)]) sl_hl in_heldIntList (by omega) (hW1.ex hx12) ⟨b2, 1, rfl, [], by simpa using hA2⟩ rfl (by omega) (by intro u hu; simp at hu; rcases hu with rfl | rfl | rfl <;> rfl) (by omega) (by omega) rfl rfl ?_
  intro vi' w3 hW3 hg3 hf3'
  have hf3 : vi'.ownBlock = vi.ownBlock ∨ ∀ b, vi'.ownBlock = some b → w2.heap.size ≤ b := hf3'.imp (fun ⟨a, c, h1, h2⟩ => by rw [h1, h2]; cases a <;> rfl) (fun h => h.1)
  have hne3 : ∀ b, vi.ownBlock = some b → b ≠ bk := hne
  have hA3 := (hA1'.ex hx12).grown hg3 (fun e => hne bk e rfl)
  refine l_nil ⟨rfl, .inr hA3, ?_⟩
  refine d_nilc rfl rfl ?_
  refine d_faN rfl Tryz.underlying46 rfl ty_hl.n rfl ?_
  refine d_ch rfl ?_
  refine s_stA (n := 4) (u := vi') ty_hl rfl rfl hW3.one hA3 (by simp [bkc]) ?_
  intro w4 hA4 hg4
  refine l_nil ⟨rfl, .inl rfl, ?_⟩
  refine d_nil ?_
  have z1 := hg1.size
  have z12 := hx12.size
  have z3 := hg3.size
  have hown : vi'.ownBlock = vi.ownBlock ∨ ∀ b, vi'.ownBlock = some b → w.heap.size ≤ b := hf3.imp id (fun h b hb => by have := h b hb; omega)
  have hbk := hA.lt
  refine end0 rfl ⟨rfl, vi', hA4, hW3.grown hg4 (fun b hb e => ?_), hown, ?_⟩
  · have e' := Option.some.inj e
    rcases hown with he | hf
    · exact hne b (he ▸ hb) e'.symm
    · have := hf b hb; omega
  · have k1 : KtS (fun b => b = bk ∨ vi.ownBlock = some b) w w1 := KtS.of_grown hg1 (fun q e => .inl (Option.some.inj e).symm)
    have k2 : KtS (fun b => b = bk ∨ vi.ownBlock = some b) w1 w2 := KtS.of_ex hx12
    have k3 : KtS (fun b => b = bk ∨ vi.ownBlock = some b) w2 w3 := KtS.of_grown hg3 (fun q e => .inr e)
    have k4 : KtS (fun b => b = bk ∨ vi.ownBlock = some b) w3 w4 := KtS.of_grown hg4 (fun q e => .inl (Option.some.inj e).symm)
    exact ((k1.trans k2).trans k3).trans k4
theorem ok_bInts : CallOK Tryz.prog 17 := callOK Tryz.func17 (by kernel_rfl) rfl
theorem ok_bIntLists : CallOK Tryz.prog 16 := callOK Tryz.func16 (by kernel_rfl) rfl
/-- What a Book holds: lists by their numbers. -/
structure Bk (wB w : World) (bk M : Nat) (ns nl : List Nat) (L : Nat → Value) (vi vl : Value) : Prop where
  ex : Ex wB w
  lo : wB.heap.size ≤ bk
  hd : At w bk 46 (bkc M vi vl)
  wi : Wd w 107 3 vi ns.length (flat3 L (fun _ => nilV) ns)
  wl : Wd w 105 3 vl nl.length (flat3 L (fun _ => nilV) nl)
  oi : ∀ b, vi.ownBlock = some b → wB.heap.size ≤ b ∧ b ≠ bk ∧ vl.ownBlock ≠ some b
  ol : ∀ b, vl.ownBlock = some b → wB.heap.size ≤ b ∧ b ≠ bk
theorem Bk.exd {wB w w' : World} {bk M : Nat} {ns nl : List Nat} {L : Nat → Value} {vi vl : Value} (h : Bk wB w bk M ns nl L vi vl) (hx : Ex w w') : Bk wB w' bk M ns nl L vi vl := ⟨h.ex.trans hx, h.lo, h.hd.ex hx, h.wi.ex hx, h.wl.ex hx, h.oi, h.ol⟩
/-- Blocks that are no Book's lie as they lay. -/
def FrB (w w' : World) : Prop := ∀ e T cs, (T == 46) = false → (T == 107) = false → (T == 105) = false → At w e T cs → At w' e T cs
theorem FrB.refl (w : World) : FrB w w := fun _ _ _ _ _ _ h => h
theorem FrB.trans {a b c : World} (h : FrB a b) (k : FrB b c) : FrB a c := fun e T cs h1 h2 h3 hA => k e T cs h1 h2 h3 (h e T cs h1 h2 h3 hA)
theorem at_ty {w : World} {b : Nat} {E T : TypeId} {cs ds : List Value} (h1 : At w b E cs) (h2 : At w b T ds) : E = T := by
  unfold At at h1 h2
  rw [h1] at h2
  have h3 := Option.some.inj h2
  rw [Obj.cells.injEq] at h3
  exact h3.2.1
theorem Wd.ty {w : World} {E T : TypeId} {s n b : Nat} {v : Value} {xs cs : List Value} (h : Wd w E s v n xs) (hb : v.ownBlock = some b) (hA : At w b T cs) : T = E := by
  unfold Wd at h
  rcases h.2 with ⟨rfl, _⟩ | ⟨b', c, sp, rfl, hA2, _⟩
  · cases hb
  · have : b' = b := Option.some.inj hb
    subst this
    exact at_ty hA hA2
theorem Bk.frI {wB w w' : World} {bk M : Nat} {ns nl : List Nat} {L : Nat → Value} {vi vl : Value} (hB : Bk wB w bk M ns nl L vi vl) (hk : KtS (fun b => b = bk ∨ vi.ownBlock = some b) w w') : FrB w w' := fun e T cs h1 h2 h3 hA => by
  refine hA.kt hk fun h => ?_
  rcases h with rfl | h
  · have := at_ty hA hB.hd; subst this; simp at h1
  · have := hB.wi.ty h hA; subst this; simp at h2
theorem Bk.frL {wB w w' : World} {bk M : Nat} {ns nl : List Nat} {L : Nat → Value} {vi vl : Value} (hB : Bk wB w bk M ns nl L vi vl) (hk : KtS (fun b => b = bk ∨ vl.ownBlock = some b) w w') : FrB w w' := fun e T cs h1 h2 h3 hA => by
  refine hA.kt hk fun h => ?_
  rcases h with rfl | h
  · have := at_ty hA hB.hd; subst this; simp at h1
  · have := hB.wl.ty h hA; subst this; simp at h3
theorem bIntsF_ct (wB : World) (bk M : Nat) (ns nl : List Nat) (L : Nat → Value) (vi vl : Value) (a : Option Addr) (k c : Nat) (w : World) (hB : Bk wB w bk M ns nl L vi vl) (hL : L (M + 1) = .slice a k c) (hM : M ≤ 100000) (hn : ns.length ≤ 100000) :
    Ct Tryz.prog 17 #[.pointer (some ⟨bk, 0, none⟩), .slice a k c] w fun u w' => u = .tuple #[] ∧ (∃ vi', Bk wB w' bk (M + 1) (ns ++ [M + 1]) nl L vi' vl) ∧ FrB w w' := by
  refine enter (N := 7) (vs := [.pointer (some ⟨bk, 0, none⟩), .slice a k c]) Tryz.func17 rfl rfl rfl ?_
  repeat (first | (refine isO ?_; refine s_move ?_) | (refine isC ?_; refine c_region ?_))
  refine s_call ok_keepInt rfl (keepInt_ct bk M ns.length (flat3 L (fun _ => nilV) ns) vi vl a k c w hB.hd hB.wi (fun b hb => (hB.oi b hb).2.1) hM hn) ?_
  rintro u w1 ⟨rfl, vi', hA, hW, ho, hk⟩
  repeat ((refine l_nil ?_))
  have z := hB.ex.size
  have hx : Ex wB w1 := KtS.ex hB.ex hk (fun q hq => by
    rcases hq with rfl | hq
    · exact hB.lo
    · exact (hB.oi q hq).1)
  have e : flat3 L (fun _ => nilV) ns ++ [.slice a k c, nilV, .int .i64 ((M + 1 : Nat) : Int)] = flat3 L (fun _ => nilV) (ns ++ [M + 1]) := by
    rw [flat3_app]
    simp [flat3, hL]
  rw [e] at hW
  refine end0 rfl ⟨rfl, ⟨vi', hx, hB.lo, hA, by simpa using hW, hB.wl.kt hk (fun b hb hq => ?_), fun b hb => ?_, hB.ol⟩, hB.frI hk⟩
  · rcases hq with hq | hq
    · exact (hB.ol b hb).2 hq
    · exact (hB.oi b hq).2.2 hb
  · rcases ho with he | hf
    · exact hB.oi b (he ▸ hb)
    · have h1 := hf b hb
      refine ⟨by omega, ?_, ?_⟩
      · have := hB.hd.lt; omega
      · intro e2; have := hB.wl.lt b e2; omega
theorem keptLF_ct (wB : World) (bk M : Nat) (ns nl : List Nat) (L : Nat → Value) (vi vl : Value) (a : Option Addr) (k c : Nat) (w : World) (hB : Bk wB w bk M ns nl L vi vl) (hL : L (M + 1) = .slice a k c) (hM : M ≤ 100000) (hn : nl.length ≤ 100000) :
    Ct Tryz.prog 42 #[.pointer (some ⟨bk, 0, none⟩), .slice a k c] w fun u w' => u = .tuple #[] ∧ (∃ vl', Bk wB w' bk (M + 1) ns (nl ++ [M + 1]) L vi vl') ∧ FrB w w' :=
  (keepIntList_ct bk M nl.length (flat3 L (fun _ => nilV) nl) vl vi a k c w hB.hd hB.wl (fun b hb => (hB.ol b hb).2) hM hn).mono fun u w1 ⟨hu, vl', hA, hW, ho, hk⟩ => by
    have z := hB.ex.size
    have hx : Ex wB w1 := KtS.ex hB.ex hk (fun q hq => by
      rcases hq with rfl | hq
      · exact hB.lo
      · exact (hB.ol q hq).1)
    have e : flat3 L (fun _ => nilV) nl ++ [.slice a k c, nilV, .int .i64 ((M + 1 : Nat) : Int)] = flat3 L (fun _ => nilV) (nl ++ [M + 1]) := by
      rw [flat3_app]
      simp [flat3, hL]
    rw [e] at hW
    refine ⟨hu, ⟨vl', hx, hB.lo, hA, hB.wi.kt hk (fun b hb hq => ?_), by simpa using hW, fun b hb => ?_, fun b hb => ?_⟩, hB.frL hk⟩
    · rcases hq with hq | hq
      · exact (hB.oi b hb).2.1 hq
      · exact (hB.oi b hb).2.2 hq
    · refine ⟨(hB.oi b hb).1, (hB.oi b hb).2.1, fun e2 => ?_⟩
      rcases ho with he | hf
      · exact (hB.oi b hb).2.2 (he ▸ e2)
      · have h1 := hf b e2
        have := hB.wi.lt b hb; omega
    · rcases ho with he | hf
      · exact hB.ol b (he ▸ hb)
      · have h1 := hf b hb
        have := hB.hd.lt
        exact ⟨by omega, by omega⟩
def upN (M i : Nat) : List Nat := (List.range i).map (fun j => M + 1 + j)
theorem upN_succ (M i : Nat) : upN M (i + 1) = upN M i ++ [M + i + 1] := by simp [upN, List.range_succ]; omega
theorem upN_len (M i : Nat) : (upN M i).length = i := by simp [upN]
set_option maxHeartbeats 1000000 in
theorem bIntListsF_ct (wB : World) (bk M : Nat) (ns nl : List Nat) (L : Nat → Value) (vi vl : Value) (vs : List Value) (v : Value) (w : World) (hB : Bk wB w bk M ns nl L vi vl) (hs : Sl wB v vs) (hvs : ∀ (i : Nat) u, vs[i]? = some u → (∃ a k c, u = .slice a k c) ∧ L (M + 1 + i) = u) (hL : L (M + vs.length + 1) = v) (hM : M + vs.length ≤ 100000) (hn : ns.length + vs.length ≤ 100000) (hn2 : nl.length ≤ 100000) :
    Ct Tryz.prog 16 #[.pointer (some ⟨bk, 0, none⟩), v] w fun u w' => u = .tuple #[] ∧ (∃ vi' vl', Bk wB w' bk (M + vs.length + 1) (ns ++ upN M vs.length) (nl ++ [M + vs.length + 1]) L vi' vl') ∧ FrB w w' := by
  obtain ⟨a, c, hv⟩ := hs.form
  refine enter (N := 20) (vs := [.pointer (some ⟨bk, 0, none⟩), v]) Tryz.func16 rfl rfl rfl ?_
  repeat (first | (refine isO ?_; refine s_assign ?_) | (refine isC ?_; first | refine c_sr ?_ | refine c_seq ?_ | refine c_block ?_) | (refine l_th ?_))
  refine c_loop (γ := Nat) 131056 (fun i => [(4, .int .i64 (i : Int))]) (fun i W => i ≤ vs.length ∧ (∃ vi', Bk wB W bk (M + i) (ns ++ upN M i) nl L vi' vl) ∧ FrB w W) (fun i => vs.length - i) 0 ⟨rfl, trivial⟩ ⟨Nat.zero_le _, ⟨vi, by simpa [upN] using hB⟩, FrB.refl w⟩ ?_
  rintro i ρ W ⟨hi, hBe, hFW⟩
  refine Exists.elim hBe fun vi' hBW => ?_
  have hsW := hs.ex hBW.ex
  repeat (first | (refine isO ?_; refine s_move ?_) | (refine isC ?_; first | refine c_sr ?_ | refine c_seq ?_))
  refine s_re (v' := v) rfl ?_
  refine s_len (n := vs.length) (a := a) (c := c) sl_rows hv ?_
  repeat (first | (refine isO ?_; (refine isBin ?_; refine s_lss rfl rfl ?_)) | (refine l_th ?_))
  refine c_ifd rfl (fun h => ?_) (fun h => ?_)
  · have hi' : i < vs.length := by omega
    have hu := hvs i vs[i] (List.getElem?_eq_getElem hi')
    refine Exists.elim hu.1 fun ua hu1 => Exists.elim hu1 fun uk hu2 => Exists.elim hu2 fun uc hu3 => ?_
    repeat (first | (refine isO ?_; refine s_move ?_) | (refine isC ?_; first | refine c_th ?_ | refine c_seq ?_ | refine c_region ?_ | refine c_block ?_))
    refine s_ix (n := i) (u := .slice ua uk uc) sl_rows ty_ints rfl rfl rfl hsW (by rw [List.getElem?_eq_getElem hi', hu3]) ?_
    intro _
    refine s_call ok_bInts rfl (bIntsF_ct wB bk (M + i) (ns ++ upN M i) nl L vi' vl ua uk uc W hBW (by rw [← hu3, ← hu.2]; congr 1; omega) (by omega) (by rw [List.length_append, upN_len]; omega)) ?_
    rintro u w1 ⟨rfl, hB1, hF1⟩
    repeat (first | (refine isO ?_; first | refine s_move ?_ | refine s_assign ?_ | (refine isBin ?_; refine s_inc rfl (by omega) ?_)) | (refine isC ?_; refine c_region ?_) | (first | refine l_th ?_ | refine l_nil ?_))
    refine loop_end (i + 1) (by (repeat (first | exact agree_refl _ _ | refine agree_upd rfl ?_ | refine agree_ext rfl ?_ | refine agree_mask rfl ?_))) ⟨rfl, trivial⟩ ⟨hi', ?_, hFW.trans hF1⟩ (by omega)
    rw [upN_succ, ← List.append_assoc]
    exact hB1
  · have hie : i = vs.length := by omega
    subst hie
    repeat (first | (refine isO ?_; refine s_move ?_) | (refine isC ?_; first | refine c_region ?_ | refine c_exit ?_))
    subst hv
    refine s_call ok_keepIntList rfl (keptLF_ct wB bk (M + vs.length) _ nl L vi' vl a vs.length c W hBW hL hM hn2) ?_
    rintro u w1 ⟨rfl, hB1, hF1⟩
    repeat ((refine l_nil ?_))
    exact end0 rfl ⟨rfl, ⟨vi', hB1⟩, hFW.trans hF1⟩
end Go.Proofs.YtifbgpkjbciblaaGreatDoor.Sal
end
section
/- The Book of salesroomlaw01: fill. -/
set_option maxRecDepth 100000
namespace Go.Proofs.YtifbgpkjbciblaaGreatDoor.Sal
open Go.RowKit
attribute [local irreducible] Go.Code.wpIn Go.wpListIn Ct Ints Rows Sl At Rw WJ
attribute [local irreducible] Wd
set_option linter.all false
theorem Wd.len {w : World} {E : TypeId} {s n : Nat} {v : Value} {xs : List Value} (h : Wd w E s v n xs) : xs.length = n * s := by unfold Wd at h; exact h.1
theorem nodup_inj : ∀ {ns : List Nat} {i j q : Nat}, ns.Nodup → ns[i]? = some q → ns[j]? = some q → i = j := by
  intro ns i j q hn hi hj
  obtain ⟨a1, a2⟩ := List.getElem?_eq_some_iff.1 hi
  obtain ⟨b1, b2⟩ := List.getElem?_eq_some_iff.1 hj
  have hp := List.pairwise_iff_getElem.1 hn
  rcases Nat.lt_trichotomy i j with h | h | h
  · exact absurd (a2.trans b2.symm) (hp i j a1 b1 h)
  · exact h
  · exact absurd (b2.trans a2.symm) (hp j i b1 a1 h)
/-- A mark of a list of numbers; of a list of lists. -/
def MKi (lo : Nat) (w : World) (q : Nat) (u : Value) : Prop := u = .int .i64 (-(q : Int))
def MKl (lo : Nat) (w : World) (q : Nat) (u : Value) : Prop := ∃ b, lo ≤ b ∧ u = sv b 1 1 ∧ At w b 3 [.int .i64 (q : Int)]
theorem MKi.ex {lo : Nat} {w w' : World} {q : Nat} {u : Value} (h : MKi lo w q u) (hx : Ex w w') : MKi lo w' q u := h
theorem MKl.ex {lo : Nat} {w w' : World} {q : Nat} {u : Value} (h : MKl lo w q u) (hx : Ex w w') : MKl lo w' q u := let ⟨b, h1, h2, h3⟩ := h; ⟨b, h1, h2, h3.ex hx⟩
theorem MKi.grown {lo : Nat} {w w' : World} {q : Nat} {u : Value} {o : Option Nat} (h : MKi lo w q u) (hg : w.grownBy w' o) (ho : ∀ b, o = some b → b < lo) : MKi lo w' q u := h
theorem MKl.grown {lo : Nat} {w w' : World} {q : Nat} {u : Value} {o : Option Nat} (h : MKl lo w q u) (hg : w.grownBy w' o) (ho : ∀ b, o = some b → b < lo) : MKl lo w' q u := by
  obtain ⟨b, h1, h2, h3⟩ := h
  exact ⟨b, h1, h2, h3.grown hg (fun e => by have := ho b e; omega)⟩
theorem MKi.kt {lo : Nat} {S : Nat → Prop} {w w' : World} {q : Nat} {u : Value} (h : MKi lo w q u) (hk : KtS S w w') (hs : ∀ b, S b → b < lo) : MKi lo w' q u := h
theorem MKl.kt {lo : Nat} {S : Nat → Prop} {w w' : World} {q : Nat} {u : Value} (h : MKl lo w q u) (hk : KtS S w w') (hs : ∀ b, S b → b < lo) : MKl lo w' q u := by
  obtain ⟨b, h1, h2, h3⟩ := h
  exact ⟨b, h1, h2, h3.kt hk (fun e => by have := hs b e; omega)⟩
theorem MKi.one {lo : Nat} {w : World} {q : Nat} {u : Value} (h : MKi lo w q u) : u.oneCell' = true := by rw [h]; rfl
theorem MKl.one {lo : Nat} {w : World} {q : Nat} {u : Value} (h : MKl lo w q u) : u.oneCell' = true := by obtain ⟨b, _, rfl, _⟩ := h; rfl
theorem ok_markInt : CallOK Tryz.prog 98 := callOK Tryz.func98 (by kernel_rfl) rfl
theorem ok_markIntList : CallOK Tryz.prog 100 := callOK Tryz.func100 (by kernel_rfl) rfl
theorem wrap_small {q : Nat} (h : q ≤ 200000) : IntKind.i64.wrap (-(q : Int)) = -(q : Int) := by
  simp only [IntKind.wrap, IntKind.signed, IntKind.bits]
  simp
  omega
theorem markInt_ct (lo q : Nat) (w : World) (hq : q ≤ 200000) (hlo : lo ≤ w.heap.size) : Ct Tryz.prog 98 #[.int .i64 (q : Int)] w fun u w' => MKi lo w' q u ∧ u.oneCell' = true ∧ Ex w w' := by
  refine enter (N := 5) (vs := [.int .i64 (q : Int)]) Tryz.func98 rfl rfl rfl ?_
  repeat (first | (refine isO ?_; first | refine s_move ?_ | refine s_assign ?_) | (refine isC ?_; refine c_sr ?_) | (refine l_th ?_))
  refine s_neg rfl ?_
  refine s_re (v' := .int .i64 (-(q : Int))) (vint (wrap_small hq)) ?_
  repeat (first | (refine isO ?_; refine s_assign ?_) | (refine isC ?_; refine c_ret ?_) | (refine l_th ?_))
  exact ret1 rfl rfl ⟨rfl, rfl, Ex.refl _⟩
theorem markIntList_ct (lo q : Nat) (w : World) (hq : q ≤ 200000) (hlo : lo ≤ w.heap.size) : Ct Tryz.prog 100 #[.int .i64 (q : Int)] w fun u w' => MKl lo w' q u ∧ u.oneCell' = true ∧ Ex w w' := by
  refine enter (N := 5) (vs := [.int .i64 (q : Int)]) Tryz.func100 rfl rfl rfl ?_
  repeat (first | (refine isO ?_; first | refine s_move ?_ | refine s_assign ?_) | (refine isC ?_; refine c_sr ?_) | (refine l_th ?_))
  refine s_bs1 sl_ints in_int rfl rfl ?_
  intro b1 w1 hb1 hA1 hx1 hs1
  repeat (first | (refine isO ?_; refine s_assign ?_) | (refine isC ?_; refine c_ret ?_) | (refine l_th ?_))
  exact ret1 rfl rfl ⟨⟨b1, by omega, rfl, hA1⟩, rfl, hx1⟩
theorem ok_fillInt : CallOK Tryz.prog 45 := callOK Tryz.func45 (by kernel_rfl) rfl
set_option maxHeartbeats 2000000 in
theorem fillInt_ct (bk M : Nat) (ns : List Nat) (L G : Nat → Value) (ln : Nat → Nat) (cs : Nat → List Value) (vi vl : Value) (w : World) (hA : At w bk 46 (bkc M vi vl)) (hW : Wd w 107 3 vi ns.length (flat3 L G ns)) (hN : ns.length ≤ 100000) (hq : ∀ q ∈ ns, q ≤ 200000)
    (hL : ∀ q ∈ ns, Wd w 3 1 (L q) (ln q) (cs q)) (hln : ∀ q ∈ ns, ln q ≤ 100000) (hLone : ∀ q ∈ ns, (L q).oneCell' = true) (hGone : ∀ q ∈ ns, (G q).oneCell' = true) (hnd : ns.Nodup) (hd : ∀ p ∈ ns, ∀ q ∈ ns, p ≠ q → ∀ b, (L p).ownBlock = some b → (L q).ownBlock ≠ some b) (hbk : ∀ q ∈ ns, ∀ b, (L q).ownBlock = some b → b ≠ bk ∧ vi.ownBlock ≠ some b) :
    Ct Tryz.prog 45 #[.pointer (some ⟨bk, 0, none⟩)] w fun u w' => u = .tuple #[] ∧ KtS (fun b => ∃ q ∈ ns, (L q).ownBlock = some b) w w' ∧ ∀ q ∈ ns, ∃ xs, Wd w' 3 1 (L q) (ln q) xs ∧ ∀ u ∈ xs, MKi w.heap.size w' q u := by
  obtain ⟨va, vc, hvf⟩ := hW.slen
  refine Exists.elim in_heldInt.ex fun ti hti => ?_
  have hS : ∀ b, (∃ q ∈ ns, (L q).ownBlock = some b) → b < w.heap.size := fun b ⟨q, h1, h2⟩ => (hL q h1).lt b h2
  refine enter (N := 35) (vs := [.pointer (some ⟨bk, 0, none⟩)]) Tryz.func45 rfl rfl rfl ?_
  repeat (first | (refine isO ?_; refine s_assign ?_) | (refine isC ?_; first | refine c_sr ?_ | refine c_block ?_) | (refine l_th ?_))
  refine c_loop (γ := Nat) 34359738364 (fun i => [(2, .int .i64 (i : Int))]) (fun i W => i ≤ ns.length ∧ KtS (fun b => ∃ q ∈ ns, (L q).ownBlock = some b) w W ∧ ∀ j q, ns[j]? = some q → (j < i → ∃ xs, Wd W 3 1 (L q) (ln q) xs ∧ ∀ u ∈ xs, MKi w.heap.size W q u) ∧ (i ≤ j → Wd W 3 1 (L q) (ln q) (cs q))) (fun i => ns.length - i) 0 ⟨rfl, trivial⟩ ⟨Nat.zero_le _, KtS.refl _ _, fun j q h => ⟨fun h => by omega, fun _ => hL q (List.mem_of_getElem? h)⟩⟩ ?_
  rintro i ρ W ⟨hi, hK, hI⟩
  have hAW := hA.kt hK (fun ⟨q, h1, h2⟩ => (hbk q h1 bk h2).1 rfl)
  have hWW := hW.kt hK (fun b hb ⟨q, h1, h2⟩ => (hbk q h1 b h2).2 hb)
  repeat (first | (refine isO ?_; refine s_move ?_) | (refine isC ?_; first | refine c_sr ?_ | refine c_seq ?_))
  refine s_nil rfl ?_
  refine s_faN Tryz.underlying46 rfl ty_hi.n rfl ?_
  refine s_ldA ty_hi rfl hAW rfl ?_
  refine s_len (n := ns.length) (a := va) (c := vc) sl_hi hvf ?_
  repeat (first | (refine isO ?_; (refine isBin ?_; refine s_lss rfl rfl ?_)) | (refine l_th ?_))
  refine c_ifd rfl (fun h => ?_) (fun h => ?_)
  · have hi' : i < ns.length := by omega
    have hqe : ∃ q, ns[i]? = some q := ⟨_, List.getElem?_eq_getElem hi'⟩
    refine Exists.elim hqe fun q hqi => ?_
    have hqm := List.mem_of_getElem? hqi
    refine Exists.elim (hWW.pos (by omega)) fun ib he1 => Exists.elim he1 fun ic he2 => Exists.elim he2 fun isp he3 => ?_
    have hcell : ∀ j v, [L q, G q, Value.int .i64 (q : Int)][j]? = some v → (flat3 L G ns ++ isp)[i * 3 + j]? = some v := fun j v hj => by
      have h1 := flat3_get L G ns i q hqi j v hj
      rw [List.getElem?_append_left (List.getElem?_eq_some_iff.1 h1).1]; exact h1
    repeat (first | (refine isO ?_; refine s_move ?_) | (refine isC ?_; first | refine c_sr ?_ | refine c_th ?_ | refine c_seq ?_ | refine c_block ?_))
    refine s_nil rfl ?_
    refine s_faN Tryz.underlying46 rfl ty_hi.n rfl ?_
    refine s_ldA ty_hi rfl hAW rfl ?_
    refine s_re (v' := .slice (some ⟨ib, 0, none⟩) ns.length ic) he3.1 ?_
    repeat ((refine isO ?_; refine s_move ?_))
    refine s_iaW (n := i) (s := 3) sl_hi ⟨ti, hti.1, hti.2.2.1⟩ rfl rfl hi' ?_
    refine s_ldM (cs := [L q, G q, .int .i64 (q : Int)]) Tryz.underlying107 rfl (by kernel_rfl) rfl he3.2.1 hcell ?_
    refine s_alloc (cs := [.slice none 0 0, .slice none 0 0, .int .i64 0]) hti.1 hti.2.1 rfl ?_
    intro b3 w3 hb3 hA3 hx3 hs3
    refine s_stV (cs := [L q, G q, .int .i64 (q : Int)]) (by kernel_rfl) rfl rfl hA3 rfl (by rw [List.all_cons, List.all_cons, hLone q hqm, hGone q hqm]; rfl) ?_
    intro w4 hA4 hg4 hz4
    have hWq := hW
    have z3 := hx3.size
    have hK4 : KtS (fun b => (L q).ownBlock = some b) W w4 := (KtS.of_ex hx3).later (KtS.of_grown (S := fun b => b3 = b) hg4 (fun k e => Option.some.inj e)) (fun k e => .inr (by omega))
    have hLq := ((hI i q hqi).2 (Nat.le_refl _))
    have hLq4 := hLq.kt ((KtS.of_ex (S := fun _ => False) hx3).later (KtS.of_grown (S := fun b => b3 = b) hg4 (fun k e => Option.some.inj e)) (fun k e => .inr (by omega))) (fun _ _ h => h)
    have hqb := hq q hqm
    have hlq := hln q hqm
    have hxl : (cs q).length = ln q := by have := hLq.len; simpa using this
    have hb3L : ∀ b, (L q).ownBlock = some b → b ≠ b3 := fun b hb e => by have := hLq.lt b hb; omega
    refine Exists.elim hLq.slen fun la hl1 => Exists.elim hl1 fun lc hlf => ?_
    repeat (first | (refine isO ?_; refine s_assign ?_) | (refine isC ?_; first | refine c_sr ?_ | refine c_block ?_) | (refine l_th ?_))
    refine c_loop (γ := Nat) 34357641232 (fun k => [(4, .int .i64 (k : Int))]) (fun k W2 => k ≤ ln q ∧ KtS (fun b => (L q).ownBlock = some b) w4 W2 ∧ ∃ xs, xs.length = k ∧ Wd W2 3 1 (L q) (ln q) (xs ++ (cs q).drop k) ∧ ∀ u ∈ xs, MKi w.heap.size W2 q u) (fun k => ln q - k) 0 ⟨rfl, trivial⟩ ⟨Nat.zero_le _, KtS.refl _ _, [], rfl, by simpa using hLq4, fun u hu => by cases hu⟩ ?_
    rintro k ρ2 W2 ⟨hk, hK2, hxe⟩
    refine Exists.elim hxe fun xs hxs => ?_
    have hA5 := hA4.kt hK2 (fun e => hb3L b3 e rfl)
    repeat (first | (refine isO ?_; refine s_move ?_) | (refine isC ?_; first | refine c_sr ?_ | refine c_seq ?_))
    refine s_faN Tryz.underlying107 rfl ty_ints.n rfl ?_
    refine s_ldA ty_ints rfl hA5 rfl ?_
    refine s_len (n := ln q) (a := la) (c := lc) sl_ints hlf ?_
    repeat (first | (refine isO ?_; (refine isBin ?_; refine s_lss rfl rfl ?_)) | (refine l_th ?_))
    refine c_ifd rfl (fun h2 => ?_) (fun h2 => ?_)
    · have hk' : k < ln q := by omega
      refine Exists.elim (hxs.2.1.pos (by omega)) fun lb hf1 => Exists.elim hf1 fun lc2 hf2 => Exists.elim hf2 fun lsp hf3 => ?_
      have hlb : (L q).ownBlock = some lb := by rw [hf3.1]; rfl
      have hlbb := hb3L lb hlb
      repeat ((refine isC ?_; first | refine c_th ?_ | refine c_seq ?_ | refine c_block ?_))
      refine c_drawO (Ex.refl W2) 128 8 [(0, true), (1, true), (2, true), (3, true), (4, true), (5, false), (6, true), (7, false)] mixed (by kernel_rfl) ?_
      refine d_faN rfl Tryz.underlying107 rfl ty_ints.n rfl ?_
      refine d_ldA rfl ty_ints rfl hA5 rfl ?_
      refine d_re (v' := .slice (some ⟨lb, 0, none⟩) (ln q) lc2) hf3.1 ?_
      refine d_move rfl ?_
      refine d_faN rfl Tryz.underlying107 rfl ty_int.n rfl ?_
      refine d_ldA rfl ty_int rfl hA5 rfl ?_
      refine d_ch rfl ?_
      refine s_call ok_markInt rfl (markInt_ct w.heap.size q W2.drew hqb (by have := hK.size; have := hK2.size; have := (Ex.drew W2).size; omega)) ?_
      rintro x w5 ⟨hmk, hone, hx5⟩
      have hx25 := (Ex.drew W2).trans hx5
      refine l_nil ⟨rfl, .inr hx25, ?_⟩
      refine d_iaA (n := k) rfl sl_ints ty_int rfl rfl hk' ?_
      refine d_ch rfl ?_
      refine s_stA (n := k) (u := x) ty_int rfl rfl hone (hf3.2.1.ex hx25) (by simp [hxs.1]; omega) ?_
      intro w6 hA6 hg6
      refine l_nil ⟨rfl, .inl rfl, ?_⟩
      refine d_nil ?_
      have hset : Wd w6 3 1 (.slice (some ⟨lb, 0, none⟩) (ln q) lc2) (ln q) ((xs ++ (cs q).drop k).set k x) := Wd.set (w := w6) (by simp [hxs.1]; omega) (by simp [hxs.1]; omega) hA6 hf3.2.2.1 hf3.2.2.2.1 hf3.2.2.2.2
      rw [← hf3.1] at hset
      have e : (xs ++ (cs q).drop k).set k x = (xs ++ [x]) ++ (cs q).drop (k + 1) := by
        rw [List.set_append_right _ _ (by omega), hxs.1, Nat.sub_self]
        have : (cs q).drop k = (cs q)[k] :: (cs q).drop (k + 1) := List.drop_eq_getElem_cons (by omega)
        rw [this, List.set_cons_zero, List.append_assoc]; rfl
      rw [e] at hset
      have hlo : lb < w.heap.size := hS lb ⟨q, hqm, hlb⟩
      repeat (first | (refine isO ?_; first | refine s_move ?_ | refine s_assign ?_ | (refine isBin ?_; refine s_inc rfl (by omega) ?_)) | (refine isC ?_; refine c_region ?_) | (refine l_th ?_))
      refine loop_end (k + 1) (by (repeat (first | exact agree_refl _ _ | refine agree_upd rfl ?_ | refine agree_ext rfl ?_ | refine agree_mask rfl ?_))) ⟨rfl, trivial⟩ ⟨hk', (hK2.trans (KtS.of_ex hx25)).trans (KtS.of_grown hg6 (fun b e => by rw [← e]; exact hlb)), xs ++ [x], by simp [hxs.1], hset, fun u hu => ?_⟩ (by omega)
      have hlt6 : ∀ b, some lb = some b → b < w.heap.size := fun b e => by cases e; exact hlo
      rcases List.mem_append.1 hu with hu | hu
      · exact MKi.grown ((hxs.2.2 u hu).ex hx25) hg6 hlt6
      · simp at hu; subst hu; exact MKi.grown hmk hg6 hlt6
    · have hke : k = ln q := by omega
      subst hke
      have hK6 : KtS (fun b => (L q).ownBlock = some b) W W2 := hK4.trans hK2
      repeat (first | (refine isO ?_; first | refine s_move ?_ | refine s_assign ?_ | (refine isBin ?_; refine s_inc rfl (by omega) ?_)) | (refine isC ?_; first | refine c_region ?_ | refine c_exit ?_) | (refine l_th ?_))
      refine loop_end (i + 1) (by (repeat (first | exact agree_refl _ _ | refine agree_upd rfl ?_ | refine agree_ext rfl ?_ | refine agree_mask rfl ?_))) ⟨rfl, trivial⟩ ⟨hi', hK.trans (hK6.mono fun b hb => ⟨q, hqm, hb⟩), fun j p hp => ⟨fun hj => ?_, fun hj => ?_⟩⟩ (by omega)
      · by_cases e : j = i
        · subst e
          rw [hqi] at hp
          have e2 := Option.some.inj hp
          subst e2
          exact ⟨xs, by have := hxs.2.1; rwa [List.drop_eq_nil_of_le (by omega), List.append_nil] at this, hxs.2.2⟩
        · have hpm := List.mem_of_getElem? hp
          have hpq : p ≠ q := fun e2 => e (nodup_inj hnd hp (e2 ▸ hqi))
          obtain ⟨ys, h1, h2⟩ := (hI j p hp).1 (by omega)
          exact ⟨ys, h1.kt hK6 (fun b hb hb2 => hd p hpm q hqm hpq b hb hb2), fun u hu => MKi.kt (h2 u hu) hK6 (fun b hb => hS b ⟨q, hqm, hb⟩)⟩
      · have hpm := List.mem_of_getElem? hp
        have hpq : p ≠ q := fun e2 => by have := nodup_inj hnd hp (e2 ▸ hqi); omega
        exact ((hI j p hp).2 (by omega)).kt hK6 (fun b hb hb2 => hd p hpm q hqm hpq b hb hb2)
  · have hie : i = ns.length := by omega
    subst hie
    repeat (first | (refine isC ?_; refine c_exit ?_) | (first | refine ib_exit ?_ | refine th_exit ?_))
    refine end0 rfl ⟨rfl, hK, fun q hqm => ?_⟩
    obtain ⟨j, hj⟩ := List.mem_iff_getElem?.1 hqm
    exact (hI j q hj).1 (List.getElem?_eq_some_iff.1 hj).1
theorem ok_fillIntList : CallOK Tryz.prog 47 := callOK Tryz.func47 (by kernel_rfl) rfl
set_option maxHeartbeats 2000000 in
theorem fillIntList_ct (bk M : Nat) (ns : List Nat) (L G : Nat → Value) (ln : Nat → Nat) (cs : Nat → List Value) (vi vl : Value) (w : World) (hA : At w bk 46 (bkc M vl vi)) (hW : Wd w 105 3 vi ns.length (flat3 L G ns)) (hN : ns.length ≤ 100000) (hq : ∀ q ∈ ns, q ≤ 200000)
    (hL : ∀ q ∈ ns, Wd w 25 1 (L q) (ln q) (cs q)) (hln : ∀ q ∈ ns, ln q ≤ 100000) (hLone : ∀ q ∈ ns, (L q).oneCell' = true) (hGone : ∀ q ∈ ns, (G q).oneCell' = true) (hnd : ns.Nodup) (hd : ∀ p ∈ ns, ∀ q ∈ ns, p ≠ q → ∀ b, (L p).ownBlock = some b → (L q).ownBlock ≠ some b) (hbk : ∀ q ∈ ns, ∀ b, (L q).ownBlock = some b → b ≠ bk ∧ vi.ownBlock ≠ some b) :
    Ct Tryz.prog 47 #[.pointer (some ⟨bk, 0, none⟩)] w fun u w' => u = .tuple #[] ∧ KtS (fun b => ∃ q ∈ ns, (L q).ownBlock = some b) w w' ∧ ∀ q ∈ ns, ∃ xs, Wd w' 25 1 (L q) (ln q) xs ∧ ∀ u ∈ xs, MKl w.heap.size w' q u := by
  obtain ⟨va, vc, hvf⟩ := hW.slen
  refine Exists.elim in_heldIntList.ex fun ti hti => ?_
  have hS : ∀ b, (∃ q ∈ ns, (L q).ownBlock = some b) → b < w.heap.size := fun b ⟨q, h1, h2⟩ => (hL q h1).lt b h2
  refine enter (N := 35) (vs := [.pointer (some ⟨bk, 0, none⟩)]) Tryz.func47 rfl rfl rfl ?_
  repeat (first | (refine isO ?_; refine s_assign ?_) | (refine isC ?_; first | refine c_sr ?_ | refine c_block ?_) | (refine l_th ?_))
  refine c_loop (γ := Nat) 34359738364 (fun i => [(2, .int .i64 (i : Int))]) (fun i W => i ≤ ns.length ∧ KtS (fun b => ∃ q ∈ ns, (L q).ownBlock = some b) w W ∧ ∀ j q, ns[j]? = some q → (j < i → ∃ xs, Wd W 25 1 (L q) (ln q) xs ∧ ∀ u ∈ xs, MKl w.heap.size W q u) ∧ (i ≤ j → Wd W 25 1 (L q) (ln q) (cs q))) (fun i => ns.length - i) 0 ⟨rfl, trivial⟩ ⟨Nat.zero_le _, KtS.refl _ _, fun j q h => ⟨fun h => by omega, fun _ => hL q (List.mem_of_getElem? h)⟩⟩ ?_
  rintro i ρ W ⟨hi, hK, hI⟩
  have hAW := hA.kt hK (fun ⟨q, h1, h2⟩ => (hbk q h1 bk h2).1 rfl)
  have hWW := hW.kt hK (fun b hb ⟨q, h1, h2⟩ => (hbk q h1 b h2).2 hb)
  repeat (first | (refine isO ?_; refine s_move ?_) | (refine isC ?_; first | refine c_sr ?_ | refine c_seq ?_))
  refine s_nil rfl ?_
  refine s_faN Tryz.underlying46 rfl ty_hl.n rfl ?_
  refine s_ldA ty_hl rfl hAW rfl ?_
  refine s_len (n := ns.length) (a := va) (c := vc) sl_hl hvf ?_
  repeat (first | (refine isO ?_; (refine isBin ?_; refine s_lss rfl rfl ?_)) | (refine l_th ?_))
  refine c_ifd rfl (fun h => ?_) (fun h => ?_)
  · have hi' : i < ns.length := by omega
    have hqe : ∃ q, ns[i]? = some q := ⟨_, List.getElem?_eq_getElem hi'⟩
    refine Exists.elim hqe fun q hqi => ?_
    have hqm := List.mem_of_getElem? hqi
    refine Exists.elim (hWW.pos (by omega)) fun ib he1 => Exists.elim he1 fun ic he2 => Exists.elim he2 fun isp he3 => ?_
    have hcell : ∀ j v, [L q, G q, Value.int .i64 (q : Int)][j]? = some v → (flat3 L G ns ++ isp)[i * 3 + j]? = some v := fun j v hj => by
      have h1 := flat3_get L G ns i q hqi j v hj
      rw [List.getElem?_append_left (List.getElem?_eq_some_iff.1 h1).1]; exact h1
    repeat (first | (refine isO ?_; refine s_move ?_) | (refine isC ?_; first | refine c_sr ?_ | refine c_th ?_ | refine c_seq ?_ | refine c_block ?_))
    refine s_nil rfl ?_
    refine s_faN Tryz.underlying46 rfl ty_hl.n rfl ?_
    refine s_ldA ty_hl rfl hAW rfl ?_
    refine s_re (v' := .slice (some ⟨ib, 0, none⟩) ns.length ic) he3.1 ?_
    repeat ((refine isO ?_; refine s_move ?_))
    refine s_iaW (n := i) (s := 3) sl_hl ⟨ti, hti.1, hti.2.2.1⟩ rfl rfl hi' ?_
    refine s_ldM (cs := [L q, G q, .int .i64 (q : Int)]) Tryz.underlying105 rfl (by kernel_rfl) rfl he3.2.1 hcell ?_
    refine s_alloc (cs := [.slice none 0 0, .slice none 0 0, .int .i64 0]) hti.1 hti.2.1 rfl ?_
    intro b3 w3 hb3 hA3 hx3 hs3
    refine s_stV (cs := [L q, G q, .int .i64 (q : Int)]) (by kernel_rfl) rfl rfl hA3 rfl (by rw [List.all_cons, List.all_cons, hLone q hqm, hGone q hqm]; rfl) ?_
    intro w4 hA4 hg4 hz4
    have hWq := hW
    have z3 := hx3.size
    have hK4 : KtS (fun b => (L q).ownBlock = some b) W w4 := (KtS.of_ex hx3).later (KtS.of_grown (S := fun b => b3 = b) hg4 (fun k e => Option.some.inj e)) (fun k e => .inr (by omega))
    have hLq := ((hI i q hqi).2 (Nat.le_refl _))
    have hLq4 := hLq.kt ((KtS.of_ex (S := fun _ => False) hx3).later (KtS.of_grown (S := fun b => b3 = b) hg4 (fun k e => Option.some.inj e)) (fun k e => .inr (by omega))) (fun _ _ h => h)
    have hqb := hq q hqm
    have hlq := hln q hqm
    have hxl : (cs q).length = ln q := by have := hLq.len; simpa using this
    have hb3L : ∀ b, (L q).ownBlock = some b → b ≠ b3 := fun b hb e => by have := hLq.lt b hb; omega
    refine Exists.elim hLq.slen fun la hl1 => Exists.elim hl1 fun lc hlf => ?_
    repeat (first | (refine isO ?_; refine s_assign ?_) | (refine isC ?_; first | refine c_sr ?_ | refine c_block ?_) | (refine l_th ?_))
    refine c_loop (γ := Nat) 34357641232 (fun k => [(4, .int .i64 (k : Int))]) (fun k W2 => k ≤ ln q ∧ KtS (fun b => (L q).ownBlock = some b) w4 W2 ∧ ∃ xs, xs.length = k ∧ Wd W2 25 1 (L q) (ln q) (xs ++ (cs q).drop k) ∧ ∀ u ∈ xs, MKl w.heap.size W2 q u) (fun k => ln q - k) 0 ⟨rfl, trivial⟩ ⟨Nat.zero_le _, KtS.refl _ _, [], rfl, by simpa using hLq4, fun u hu => by cases hu⟩ ?_
    rintro k ρ2 W2 ⟨hk, hK2, hxe⟩
    refine Exists.elim hxe fun xs hxs => ?_
    have hA5 := hA4.kt hK2 (fun e => hb3L b3 e rfl)
    repeat (first | (refine isO ?_; refine s_move ?_) | (refine isC ?_; first | refine c_sr ?_ | refine c_seq ?_))
    refine s_faN Tryz.underlying105 rfl ty_rows.n rfl ?_
    refine s_ldA ty_rows rfl hA5 rfl ?_
    refine s_len (n := ln q) (a := la) (c := lc) sl_rows hlf ?_
    repeat (first | (refine isO ?_; (refine isBin ?_; refine s_lss rfl rfl ?_)) | (refine l_th ?_))
    refine c_ifd rfl (fun h2 => ?_) (fun h2 => ?_)
    · have hk' : k < ln q := by omega
      refine Exists.elim (hxs.2.1.pos (by omega)) fun lb hf1 => Exists.elim hf1 fun lc2 hf2 => Exists.elim hf2 fun lsp hf3 => ?_
      have hlb : (L q).ownBlock = some lb := by rw [hf3.1]; rfl
      have hlbb := hb3L lb hlb
      repeat ((refine isC ?_; first | refine c_th ?_ | refine c_seq ?_ | refine c_block ?_))
      refine c_drawO (Ex.refl W2) 128 8 [(0, true), (1, true), (2, true), (3, true), (4, true), (5, false), (6, true), (7, false)] mixed (by kernel_rfl) ?_
      refine d_faN rfl Tryz.underlying105 rfl ty_rows.n rfl ?_
      refine d_ldA rfl ty_rows rfl hA5 rfl ?_
      refine d_re (v' := .slice (some ⟨lb, 0, none⟩) (ln q) lc2) hf3.1 ?_
      refine d_move rfl ?_
      refine d_faN rfl Tryz.underlying105 rfl ty_int.n rfl ?_
      refine d_ldA rfl ty_int rfl hA5 rfl ?_
      refine d_ch rfl ?_
      refine s_call ok_markIntList rfl (markIntList_ct w.heap.size q W2.drew hqb (by have := hK.size; have := hK2.size; have := (Ex.drew W2).size; omega)) ?_
      rintro x w5 ⟨hmk, hone, hx5⟩
      have hx25 := (Ex.drew W2).trans hx5
      refine l_nil ⟨rfl, .inr hx25, ?_⟩
      refine d_iaA (n := k) rfl sl_rows ty_ints rfl rfl hk' ?_
      refine d_ch rfl ?_
      refine s_stA (n := k) (u := x) ty_ints rfl rfl hone (hf3.2.1.ex hx25) (by simp [hxs.1]; omega) ?_
      intro w6 hA6 hg6
      refine l_nil ⟨rfl, .inl rfl, ?_⟩
      refine d_nil ?_
      have hset : Wd w6 25 1 (.slice (some ⟨lb, 0, none⟩) (ln q) lc2) (ln q) ((xs ++ (cs q).drop k).set k x) := Wd.set (w := w6) (by simp [hxs.1]; omega) (by simp [hxs.1]; omega) hA6 hf3.2.2.1 hf3.2.2.2.1 hf3.2.2.2.2
      rw [← hf3.1] at hset
      have e : (xs ++ (cs q).drop k).set k x = (xs ++ [x]) ++ (cs q).drop (k + 1) := by
        rw [List.set_append_right _ _ (by omega), hxs.1, Nat.sub_self]
        have : (cs q).drop k = (cs q)[k] :: (cs q).drop (k + 1) := List.drop_eq_getElem_cons (by omega)
        rw [this, List.set_cons_zero, List.append_assoc]; rfl
      rw [e] at hset
      have hlo : lb < w.heap.size := hS lb ⟨q, hqm, hlb⟩
      repeat (first | (refine isO ?_; first | refine s_move ?_ | refine s_assign ?_ | (refine isBin ?_; refine s_inc rfl (by omega) ?_)) | (refine isC ?_; refine c_region ?_) | (refine l_th ?_))
      refine loop_end (k + 1) (by (repeat (first | exact agree_refl _ _ | refine agree_upd rfl ?_ | refine agree_ext rfl ?_ | refine agree_mask rfl ?_))) ⟨rfl, trivial⟩ ⟨hk', (hK2.trans (KtS.of_ex hx25)).trans (KtS.of_grown hg6 (fun b e => by rw [← e]; exact hlb)), xs ++ [x], by simp [hxs.1], hset, fun u hu => ?_⟩ (by omega)
      have hlt6 : ∀ b, some lb = some b → b < w.heap.size := fun b e => by cases e; exact hlo
      rcases List.mem_append.1 hu with hu | hu
      · exact MKl.grown ((hxs.2.2 u hu).ex hx25) hg6 hlt6
      · simp at hu; subst hu; exact MKl.grown hmk hg6 hlt6
    · have hke : k = ln q := by omega
      subst hke
      have hK6 : KtS (fun b => (L q).ownBlock = some b) W W2 := hK4.trans hK2
      repeat (first | (refine isO ?_; first | refine s_move ?_ | refine s_assign ?_ | (refine isBin ?_; refine s_inc rfl (by omega) ?_)) | (refine isC ?_; first | refine c_region ?_ | refine c_exit ?_) | (refine l_th ?_))
      refine loop_end (i + 1) (by (repeat (first | exact agree_refl _ _ | refine agree_upd rfl ?_ | refine agree_ext rfl ?_ | refine agree_mask rfl ?_))) ⟨rfl, trivial⟩ ⟨hi', hK.trans (hK6.mono fun b hb => ⟨q, hqm, hb⟩), fun j p hp => ⟨fun hj => ?_, fun hj => ?_⟩⟩ (by omega)
      · by_cases e : j = i
        · subst e
          rw [hqi] at hp
          have e2 := Option.some.inj hp
          subst e2
          exact ⟨xs, by have := hxs.2.1; rwa [List.drop_eq_nil_of_le (by omega), List.append_nil] at this, hxs.2.2⟩
        · have hpm := List.mem_of_getElem? hp
          have hpq : p ≠ q := fun e2 => e (nodup_inj hnd hp (e2 ▸ hqi))
          obtain ⟨ys, h1, h2⟩ := (hI j p hp).1 (by omega)
          exact ⟨ys, h1.kt hK6 (fun b hb hb2 => hd p hpm q hqm hpq b hb hb2), fun u hu => MKl.kt (h2 u hu) hK6 (fun b hb => hS b ⟨q, hqm, hb⟩)⟩
      · have hpm := List.mem_of_getElem? hp
        have hpq : p ≠ q := fun e2 => by have := nodup_inj hnd hp (e2 ▸ hqi); omega
        exact ((hI j p hp).2 (by omega)).kt hK6 (fun b hb hb2 => hd p hpm q hqm hpq b hb hb2)
  · have hie : i = ns.length := by omega
    subst hie
    repeat (first | (refine isC ?_; refine c_exit ?_) | (first | refine ib_exit ?_ | refine th_exit ?_))
    refine end0 rfl ⟨rfl, hK, fun q hqm => ?_⟩
    obtain ⟨j, hj⟩ := List.mem_iff_getElem?.1 hqm
    exact (hI j q hj).1 (List.getElem?_eq_some_iff.1 hj).1
end Go.Proofs.YtifbgpkjbciblaaGreatDoor.Sal
end
