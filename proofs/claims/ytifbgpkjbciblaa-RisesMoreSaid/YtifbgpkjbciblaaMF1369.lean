/- Texts that YtifbgpkjbciblaaF136 leans on, laid together: V25 L136. -/
import Derived.Test.YtifbgpkjbciblaaMF1368
section
/- V25: markets.Gains. -/
set_option maxRecDepth 100000
namespace Go.Proofs.Ytifbgpkjbciblaa.Sal
open Go.RowKit
set_option linter.all false
/-- Rows that are laid so far. -/
def GR (w : World) (us : Nat → Value) (i m : Nat) (G : Nat → Nat → Int) (bG B : Nat) : Prop := ∀ j, j < i → ∃ b, us j = sv b m m ∧ At w b 3 (tabn m (G j)) ∧ b ≠ bG ∧ b < B
theorem GR.ex {w w' : World} {us : Nat → Value} {i m : Nat} {G : Nat → Nat → Int} {bG B : Nat} (h : GR w us i m G bG B) (hx : Ex w w') : GR w' us i m G bG B := fun j hj => let ⟨b, h1, h2, h3⟩ := h j hj; ⟨b, h1, h2.ex hx, h3⟩
theorem GR.grown {w w' : World} {us : Nat → Value} {i m c : Nat} {G : Nat → Nat → Int} {bG B : Nat} (h : GR w us i m G bG B) (hg : w.grownBy w' (some c)) (hc : c = bG ∨ B ≤ c) : GR w' us i m G bG B := fun j hj => by
  obtain ⟨b, h1, h2, h3, h4⟩ := h j hj
  exact ⟨b, h1, h2.grown hg (fun e => by have := Option.some.inj e; omega), h3, h4⟩
theorem GR.up {w : World} {us us' : Nat → Value} {i m : Nat} {G : Nat → Nat → Int} {bG B B' : Nat} (h : GR w us i m G bG B) (hB : B ≤ B') (hu : ∀ j, j < i → us' j = us j) : GR w us' i m G bG B' := fun j hj => by
  obtain ⟨b, h1, h2, h3, h4⟩ := h j hj
  exact ⟨b, by rw [hu j hj]; exact h1, h2, h3, by omega⟩
theorem GR.rows {w : World} {us : Nat → Value} {m : Nat} {res : List Int} {bids : List (List Int)} {bG B : Nat} (h : GR w us bids.length res.length (gain (gainsL res bids)) bG B) (hm : res.length ≤ 8) (hn : bids.length ≤ 8) (hA : At w bG 22 ((List.range bids.length).map us)) : Rows w (sv bG bids.length bids.length) (gainsL res bids) := by
  have hl := gains_len res bids
  have h9 := hA.rows (g := gainsL res bids) (c := bids.length) (by simp [hl]) (by omega) (by omega) (fun i u l hu hl' => by
    have hi := (List.getElem?_eq_some_iff.1 hl').1
    rw [hl] at hi
    have e1 : u = us i := by simp [hi] at hu; exact hu.symm
    have e2 : (gainsL res bids).getD i [] = l := by simp [List.getD_eq_getElem?_getD, hl']
    obtain ⟨b, h1, h2, _⟩ := h i hi
    have e3 : l = (List.range res.length).map (gain (gainsL res bids) i) := by
      rw [← e2, gains_row res hi]
      apply List.map_congr_left
      intro k hk
      rw [gains_at hi (List.mem_range.1 hk)]
    rw [e1, h1, e3]
    rw [tabn_ints] at h2
    have := h2.ints (c := res.length) (by simp; omega) (by simp)
    simpa using this)
  rw [hl] at h9
  exact h9
theorem ok_mGains : CallOK Try.prog 19 := callOK Try.func19 (by kernel_rfl) rfl
attribute [local irreducible] Go.Code.wpIn Go.wpListIn Ct Ints Rows Sl At Rw WJ
attribute [local irreducible] GR
set_option maxHeartbeats 8000000 in
theorem mGains_ct (rv bv ov : Value) (res : List Int) (bids : List (List Int)) (ord : List Int) (w : World) (hM : Mk w rv bv ov res bids ord) (hck : chkM res bids ord = true) :
    Ct Try.prog 19 #[.agg #[rv, bv, ov]] w fun u w' => ∃ b, u = .tuple #[sv b bids.length bids.length, .int .i64 0] ∧ Rows w' (sv b bids.length bids.length) (gainsL res bids) ∧ Ex w w' := by
  have hOK := mkok hck
  have hn8 := hOK.n8
  have hm1 := hOK.m1
  have hm8 := hOK.m8
  refine Exists.elim in_ints' fun tn htn => ?_
  refine Exists.elim in_int' fun ti hti => ?_
  refine enter (N := 63) (vs := [.agg #[rv, bv, ov]]) Try.func19 rfl rfl rfl ?_
  repeat ((refine isC ?_; refine c_sr ?_))
  refine s_box (cs := [rv, bv, ov]) rfl rfl ?_
  intro b0 w0 hb0 hZ hx0 hs0
  have hM0 := hM.ex hx0
  repeat (first | (refine isO ?_; refine s_assign ?_) | (refine isC ?_; first | refine c_sr ?_ | refine c_seq ?_) | (refine l_th ?_))
  refine s_ldV Try.underlying25 rfl (sz_mk _ _ _) rfl hZ ?_
  refine s_call ok_mcheck rfl (mcheck_ct rv bv ov res bids ord w0 hM0) ?_
  rintro u w1 ⟨rfl, hx1⟩
  refine s_re (v' := .bool true) (vbool hck) ?_
  have hZ1 := hZ.ex hx1
  have hM1 := hM0.ex hx1
  have hb1 := hM1.b
  have hx01 := hx0.trans hx1
  repeat (first | (refine isO ?_; first | (refine isCall ?_; refine s_lenR sl_rows rfl (by assumption) ?_) | refine s_not rfl ?_) | (refine isO ?_; first | refine s_fa Try.underlying25 rfl ty_rows rfl ?_ | refine s_ldA ty_rows rfl (by assumption) rfl ?_) | (refine isC ?_; first | refine c_sr ?_ | refine c_th ?_ | refine c_iff rfl ?_) | (refine l_th ?_))
  refine s_make sl_rows htn.1 htn.2.1 htn.2.2.1 rfl htn.2.2.2 rfl (by omega) ?_
  intro bG w2 hbG hGA hx2 hs2
  have hZ2 := hZ1.ex hx2
  have hb2 := hb1.ex hx2
  repeat (first | (refine isO ?_; first | refine s_move ?_ | refine s_assign ?_ | (refine isCall ?_; refine s_lenR sl_rows rfl (by assumption) ?_)) | (refine isO ?_; first | refine s_fa Try.underlying25 rfl ty_rows rfl ?_ | refine s_ldA ty_rows rfl (by assumption) rfl ?_) | (refine isC ?_; first | refine c_sr ?_ | refine c_seq ?_ | refine c_block ?_) | (refine l_th ?_))
  refine c_loop2 4611686018426864096 (fun (i : Nat) (_ : Nat → Value) => [(19, .int .i64 (i : Int))]) (fun i us V => i ≤ bids.length ∧ At V bG 22 ((List.range bids.length).map us) ∧ GR V us i res.length (gain (gainsL res bids)) bG V.heap.size ∧ Ex w1 V ∧ bG < V.heap.size) (fun i _ => bids.length - i) 0 (fun _ => .slice none 0 0) ⟨rfl, trivial⟩
    ⟨Nat.zero_le _, by have h9 : (List.range bids.length).map (fun _ : Nat => (Value.slice none 0 0)) = List.replicate bids.length (.slice none 0 0) := by simp [List.map_const']
                       rw [h9]; exact hGA, by unfold GR; exact fun j h => absurd h (Nat.not_lt_zero _), hx2, by omega⟩ ?_
  rintro i us ρ V ⟨hi, hGV, hrow, hxV, hGlt⟩
  have hrV := hM1.r.ex hxV
  have hZV := hZ1.ex hxV
  repeat (first | (refine isO ?_; (refine isBin ?_; refine s_lss rfl rfl ?_)) | (refine isC ?_; first | refine c_sr ?_ | refine c_seq ?_) | (refine l_th ?_))
  refine c_ifd rfl (fun h3 => ?_) (fun h3 => ?_)
  · have hi' : i < bids.length := by omega
    repeat (first | (refine isO ?_; refine s_move ?_) | (refine isC ?_; first | refine c_sr ?_ | refine c_th ?_ | refine c_seq ?_ | refine c_block ?_))
    refine s_ixR0 sl_rows ty_ints hb1 hxV rfl rfl rfl hi' ?_
    intro _ u1 hu1
    repeat (first | (refine isO ?_; first | refine s_move ?_ | refine s_assign ?_) | (refine isC ?_; refine c_sr ?_) | (refine l_th ?_))
    refine s_fa Try.underlying25 rfl ty_ints rfl ?_
    refine s_ldA ty_ints rfl hZV rfl ?_
    repeat ((refine isO ?_; (refine isCall ?_; refine s_lenI sl_ints rfl (by assumption) ?_)))
    refine s_make sl_ints hti.1 hti.2.1 hti.2.2.1 rfl hti.2.2.2 rfl (by omega) ?_
    intro bi V1 hbi hiA hx1V hs1V
    refine s_iaA (n := i) sl_rows ty_ints rfl rfl hi' ?_
    refine s_stA (n := i) (u := sv bi res.length res.length) ty_ints rfl rfl rfl (hGV.ex hx1V) (by simp [hi']) ?_
    intro V2 hG2 hg2
    rw [mfs hi'] at hG2
    have z2 := hg2.size
    have hiA2 := hiA.grown hg2 (fun e => by have := Option.some.inj e; omega)
    have hx12 : Ex w1 V2 := (hxV.trans hx1V).store hg2 (by omega)
    have hrow2 : GR V2 (fs us i (sv bi res.length res.length)) i res.length (gain (gainsL res bids)) bG V.heap.size := ((hrow.ex hx1V).grown hg2 (.inl rfl)).up (Nat.le_refl _) (fun j hj => if_neg (by omega))
    have hZ3 := hZ1.ex hx12
    have hr3 := hM1.r.ex hx12
    rw [tabn_zero] at hiA2
    repeat (first | (refine isC ?_; refine c_sr ?_) | (refine l_th ?_))
    refine s_fa Try.underlying25 rfl ty_ints rfl ?_
    refine s_ldA ty_ints rfl hZ3 rfl ?_
    repeat (first | (refine isO ?_; first | refine s_move ?_ | (refine isCall ?_; refine s_lenI sl_ints rfl (by assumption) ?_)) | (refine isC ?_; refine c_block ?_) | (refine l_th ?_))
    refine c_loop (γ := Nat) 2305842992033825152 (fun k => [(34, .int .i64 (k : Int))]) (fun k U => k ≤ res.length ∧ At U bi 3 (tabn res.length (fun j => if j < k then gain (gainsL res bids) i j else 0)) ∧ At U bG 22 ((List.range bids.length).map (fs us i (sv bi res.length res.length))) ∧ GR U (fs us i (sv bi res.length res.length)) i res.length (gain (gainsL res bids)) bG V.heap.size ∧ Ex w1 U ∧ V2.heap.size ≤ U.heap.size) (fun k => res.length - k) 0 ⟨rfl, trivial⟩ ⟨Nat.zero_le _, at_tabn (fun x _ => by simp [zeroF]) hiA2, hG2, hrow2, hx12, Nat.le_refl _⟩ ?_
    rintro k ρ2 U ⟨hk, hiU, hGU, hrowU, hxU, hzU⟩
    have hrU := hM1.r.ex hxU
    repeat (first | (refine isO ?_; (refine isBin ?_; refine s_lss rfl rfl ?_)) | (refine isC ?_; first | refine c_sr ?_ | refine c_seq ?_) | (refine l_th ?_))
    refine c_ifd rfl (fun h4 => ?_) (fun h4 => ?_)
    · have hk' : k < res.length := by omega
      have hbb := bd_bid (hOK.bb i hi') k
      have hrb := hOK.rb k
      repeat (first | (refine isO ?_; first | refine s_move ?_ | refine s_assign ?_ | (refine isIA ?_; refine s_ixI sl_ints ty_int rfl rfl rfl (by assumption) (by omega) ?_; intro _)) | (refine isC ?_; first | refine c_sr ?_ | refine c_th ?_ | refine c_seq ?_ | refine c_block ?_) | (refine l_th ?_))
      refine s_iaA (n := i) sl_rows ty_ints rfl rfl hi' ?_
      refine s_ldA ty_ints rfl hGU (u := sv bi res.length res.length) (by simp [hi', fs]) ?_
      repeat ((refine isO ?_; refine s_move ?_))
      refine s_iaA (n := k) sl_ints ty_int rfl rfl hk' ?_
      refine s_stA (n := k) (u := .int .i64 (-1)) ty_int rfl rfl rfl hiU (by rw [tabn_len]; omega) ?_
      intro U1 hi1 hg1
      rw [tabn_set _ _ hk'] at hi1
      have zu := hg1.size
      have hG1 := hGU.grown hg1 (fun e => by have := Option.some.inj e; omega)
      have hrow1 := hrowU.grown hg1 (.inr (by omega))
      have hx1U : Ex w1 U1 := hxU.store hg1 (by omega)
      have huU1 := hu1.ex hx1U
      by_cases hl0 : (bids.getD i []).length = 0
      · repeat (first | (refine isO ?_; first | refine s_move ?_ | (refine isBin ?_; first | refine s_inc rfl (by omega) ?_ | refine s_gtrF rfl rfl (by omega) ?_) | (refine isCall ?_; refine s_lenI sl_ints rfl (by assumption) ?_)) | (refine isC ?_; first | refine c_sr ?_ | refine c_region ?_ | refine c_iff rfl ?_ | refine c_skip ?_) | (refine l_th ?_))
        refine loop_end (k + 1) (by (repeat (first | exact agree_refl _ _ | refine agree_upd rfl ?_ | refine agree_ext rfl ?_ | refine agree_mask rfl ?_))) ⟨vint (by omega), trivial⟩ ⟨hk', at_tabn (fun x hx => ?_) hi1, hG1, hrow1, hx1U, by omega⟩ (by show res.length - (k + 1) < res.length - k; omega)
        simp only [updF]
        by_cases e : x = k
        · subst e
          rw [if_pos rfl, if_pos (by omega), gains_at hi' hk', if_pos (show lenB bids i = 0 from hl0)]
        · rw [if_neg e]
          by_cases e2 : x < k
          · rw [if_pos e2, if_pos (by omega)]
          · rw [if_neg e2, if_neg (by omega)]
      · have hle : (bids.getD i []).length = res.length := (hOK.lens i hi').resolve_left hl0
        repeat (first | (refine isO ?_; first | refine s_move ?_ | (refine isBin ?_; refine s_gtrT rfl rfl (by omega) ?_) | (refine isCall ?_; refine s_lenI sl_ints rfl (by assumption) ?_)) | (refine isC ?_; first | refine c_sr ?_ | refine c_ift rfl ?_) | (refine l_th ?_))
        refine c_drawO (Ex.refl U1) 4096 8 [(0, true), (1, true), (2, true), (3, true), (4, true), (5, true), (6, true), (7, true), (8, true), (9, true), (10, true), (11, true), (12, false)] mixed (by kernel_rfl) ?_
        have hxd := Ex.drew U1
        refine d_move rfl ?_
        refine d_move rfl ?_
        refine d_iaA (n := i) rfl sl_rows ty_ints rfl rfl hi' ?_
        refine d_ldA rfl ty_ints rfl hG1 (u := sv bi res.length res.length) (by simp [hi', fs]) ?_
        refine d_move rfl ?_
        refine d_move rfl ?_
        refine d_move rfl ?_
        refine d_iaI (n := k) rfl sl_ints ty_int rfl rfl huU1 (by omega) ?_
        intro ad hc
        refine d_ld rfl ty_int rfl hc ?_
        refine d_move rfl ?_
        refine d_sub rfl rfl rfl ⟨by omega, by omega⟩ ?_
        refine d_iaA (n := k) rfl sl_ints ty_int rfl rfl hk' ?_
        refine d_ch rfl ?_
        refine s_stA (n := k) (u := .int .i64 ((bids.getD i []).getD k 0 - res.getD k 0)) ty_int rfl rfl rfl (hi1.ex hxd) (by rw [tabn_len]; omega) ?_
        intro U3 hi3 hg3
        refine l_nil ⟨rfl, .inl rfl, ?_⟩
        refine d_nil ?_
        rw [tabn_set _ _ hk'] at hi3
        have zd := hxd.size
        have z3 := hg3.size
        have hG3 := (hG1.ex hxd).grown hg3 (fun e => by have := Option.some.inj e; omega)
        have hrow3 := (hrow1.ex hxd).grown hg3 (.inr (by omega))
        have hx3U : Ex w1 U3 := (hx1U.trans hxd).store hg3 (by omega)
        repeat (first | (refine isO ?_; first | refine s_move ?_ | (refine isBin ?_; refine s_inc rfl (by omega) ?_)) | (refine isC ?_; refine c_region ?_) | (refine l_th ?_))
        refine loop_end (k + 1) (by (repeat (first | exact agree_refl _ _ | refine agree_upd rfl ?_ | refine agree_ext rfl ?_ | refine agree_mask rfl ?_))) ⟨vint (by omega), trivial⟩ ⟨hk', at_tabn (fun x hx => ?_) hi3, hG3, hrow3, hx3U, by omega⟩ (by show res.length - (k + 1) < res.length - k; omega)
        simp only [updF]
        by_cases e : x = k
        · subst e
          rw [if_pos rfl, if_pos (by omega), gains_at hi' hk', if_neg (show ¬ lenB bids i = 0 from hl0)]
        · rw [if_neg e, if_neg e]
          by_cases e2 : x < k
          · rw [if_pos e2, if_pos (by omega)]
          · rw [if_neg e2, if_neg (by omega)]
    · have hkn : k = res.length := by omega
      subst hkn
      repeat (first | (refine isO ?_; first | refine s_move ?_ | (refine isBin ?_; refine s_inc rfl (by omega) ?_)) | (refine isC ?_; first | refine c_region ?_ | refine c_exit ?_) | (refine l_th ?_))
      refine loop_end2 (i + 1) (fs us i (sv bi res.length res.length)) (by (repeat (first | exact agree_refl _ _ | refine agree_upd rfl ?_ | refine agree_ext rfl ?_ | refine agree_mask rfl ?_))) ⟨vint (by omega), trivial⟩ ⟨hi', hGU, ?_, hxU, by omega⟩ (by show bids.length - (i + 1) < bids.length - i; omega)
      have hfi := at_tabn (g := gain (gainsL res bids) i) (fun x hx => if_pos hx) hiU
      have hil := hfi.lt
      unfold GR at hrowU ⊢
      intro j hj
      by_cases e : j = i
      · subst e
        exact ⟨bi, if_pos rfl, hfi, by omega, hil⟩
      · obtain ⟨b, h1, h2, h3, h4⟩ := hrowU j (by omega)
        exact ⟨b, h1, h2, h3, by omega⟩
  · have hin : i = bids.length := by omega
    subst hin
    repeat (first | (refine isO ?_; first | refine s_move ?_ | refine s_assign ?_) | (refine isC ?_; first | refine c_sr ?_ | refine c_ret ?_ | refine c_exit ?_) | (refine l_th ?_))
    exact ret2 rfl rfl rfl ⟨_, rfl, hrow.rows (m := 0) hn8 hm8 hGV, hx01.trans hxV⟩
end Go.Proofs.Ytifbgpkjbciblaa.Sal
end
section
/- The walk of salesroomlaw13.RisesMore. -/
set_option maxRecDepth 100000
namespace Go.Proofs.Ytifbgpkjbciblaa.Sal
open Go.RowKit
set_option linter.all false
/-- Gains with one item twice. -/
def moreG (g : List (List Int)) (q : Nat) : List (List Int) := g.map fun l => l ++ [l.getD q 0]
theorem moreG_len (g : List (List Int)) (q : Nat) : (moreG g q).length = g.length := by simp [moreG]
theorem moreG_get {g : List (List Int)} {q i : Nat} (hi : i < g.length) : (moreG g q).getD i [] = g.getD i [] ++ [(g.getD i []).getD q 0] := by simp [moreG, List.getD_eq_getElem?_getD, hi]
theorem moreG_succ {g : List (List Int)} {q i : Nat} (hi : i < g.length) : (moreG g q).take (i + 1) = (moreG g q).take i ++ [g.getD i [] ++ [(g.getD i []).getD q 0]] := by
  rw [← moreG_get hi]
  have hl : i < (moreG g q).length := by rw [moreG_len]; exact hi
  rw [List.take_succ, List.getD_eq_getElem?_getD, List.getElem?_eq_getElem hl]; rfl
theorem gains_len_row (res : List Int) {bids : List (List Int)} {i : Nat} (hi : i < bids.length) : ((gainsL res bids).getD i []).length = res.length := by rw [gains_row res hi]; simp
theorem gains_bd {res : List Int} {bids : List (List Int)} (hM : MkOK res bids) (i k : Nat) : -1000000 ≤ gain (gainsL res bids) i k ∧ gain (gainsL res bids) i k ≤ 1000000 := by
  by_cases hi : i < bids.length
  · by_cases hk : k < res.length
    · rw [gains_at hi hk]
      have h1 := bd_bid (hM.bb i hi) k
      have h2 := hM.rb k
      split <;> omega
    · unfold gain
      have hl := gains_len_row res hi
      rw [List.getD_eq_getElem?_getD, List.getElem?_eq_none (by omega)]
      simp
  · have h1 : (gainsL res bids).getD i [] = [] := by rw [List.getD_eq_getElem?_getD, List.getElem?_eq_none (by rw [gains_len]; omega)]; rfl
    unfold gain
    rw [h1]
    simp
theorem gains_good {res : List Int} {bids : List (List Int)} (hM : MkOK res bids) : Good (gainsL res bids) res.length :=
  ⟨by rw [gains_len]; exact hM.m8, fun i hi => by rw [gains_len] at hi; exact gains_len_row res hi, gains_bd hM⟩
theorem more_gain {g : List (List Int)} {n q i j : Nat} (hi : i < g.length) (hl : (g.getD i []).length = n) (hj : j < n + 1) : gain (moreG g q) i j = addc (gain g) n q i j := by
  unfold gain addc
  rw [moreG_get hi]
  by_cases e : j < n
  · rw [if_pos e, List.getD_eq_getElem?_getD, List.getElem?_append_left (by omega)]; rfl
  · rw [if_neg e, List.getD_eq_getElem?_getD, List.getElem?_append_right (by omega), show j - (g.getD i []).length = 0 by omega]; rfl
theorem more_good {res : List Int} {bids : List (List Int)} (hM : MkOK res bids) (q : Nat) : Good (moreG (gainsL res bids) q) (res.length + 1) := by
  refine ⟨by rw [moreG_len, gains_len]; exact hM.m8, fun i hi => ?_, fun i k => ?_⟩
  · rw [moreG_len] at hi
    rw [moreG_get hi]
    rw [gains_len] at hi
    rw [List.length_append, gains_len_row res hi]; rfl
  · by_cases hi : i < bids.length
    · have hi2 : i < (gainsL res bids).length := by rw [gains_len]; exact hi
      have hl := gains_len_row res hi
      by_cases hk : k < res.length + 1
      · rw [more_gain hi2 hl hk]
        unfold addc
        split
        · exact gains_bd hM i k
        · exact gains_bd hM i q
      · unfold gain
        rw [moreG_get hi2, List.getD_eq_getElem?_getD, List.getElem?_eq_none (by rw [List.length_append, hl]; simp; omega)]
        simp
    · have h1 : (moreG (gainsL res bids) q).getD i [] = [] := by rw [List.getD_eq_getElem?_getD, List.getElem?_eq_none (by rw [moreG_len, gains_len]; omega)]; rfl
      unfold gain
      rw [h1]
      simp
theorem more_lawE {res : List Int} {bids : List (List Int)} {L : List (List Int)} {q : Nat} (hM : MkOK res bids) (hR : RunS res bids L) (hLg : ∀ i, i < L.length → Lg res (L.getD i [])) (hq : q < res.length) :
    (endL L).getD q 0 = res.getD q 0 + VV (moreG (gainsL res bids) q) (res.length + 1) - VV (gainsL res bids) res.length := by
  have h1 := more_end hM hR hLg q hq
  have h2 := more_VV (g := gainsL res bids) (h := moreG (gainsL res bids) q) (n := res.length) (k := q) (by rw [gains_len]; exact hM.m8) (moreG_len _ _) hq (fun i j hi hj => more_gain hi (gains_len_row res (by rw [gains_len] at hi; exact hi)) hj)
  omega
attribute [local irreducible] Go.Code.wpIn Go.wpListIn Ct Ints Rows Sl At Rw WJ
attribute [local irreducible] GR Wd OwnI
set_option maxHeartbeats 8000000 in
theorem RisesMore_ct (rv bv ov : Value) (res : List Int) (bids : List (List Int)) (ord : List Int) (x1 : Nat) (w : World) (hM : Mk w rv bv ov res bids ord) (hx1b : x1 < 256) :
    Ct Try.prog 8 #[.agg #[rv, bv, ov], .int .u8 (x1 : Int)] w fun u w' => u = .bool true ∧ Ex w w' := by
  refine enter (N := 123) (vs := [.agg #[rv, bv, ov], .int .u8 (x1 : Int)]) Try.func8 rfl rfl rfl ?_
  repeat ((refine isC ?_; refine c_sr ?_))
  refine s_box (cs := [rv, bv, ov]) rfl rfl ?_
  intro b0 w0 hb0 hZ hx0 hs0
  have hM0 := hM.ex hx0
  repeat (first | (refine isO ?_; refine s_assign ?_) | (refine isC ?_; refine c_sr ?_) | (refine l_th ?_))
  refine s_ldV Try.underlying25 rfl (sz_mk _ _ _) rfl hZ ?_
  refine Or.elim (tfV (chkM res bids ord)) (fun hck => ?_) (fun hck => ?_)
  · have hOK := mkok hck
    refine Exists.elim (run_ex hOK) fun L hL => ?_
    have hR := hL.1
    have hLg := hL.2
    have hend := run_end hOK hR hLg
    have hn1 := hOK.n1
    have hn8 := hOK.n8
    have hm1 := hOK.m1
    have hm8 := hOK.m8
    refine s_call ok_rLeast rfl (Least_ok rv bv ov res bids ord L w0 hM0 hck hR) ?_
    rintro u w1 ⟨be, rfl, hOe, hbe, hx1⟩
    have hx01 := hx0.trans hx1
    have hZ1 := hZ.ex hx1
    have hM1 := hM0.ex hx1
    have hr1 := hM1.r
    have hel : (endL L).length = res.length := hend.2.1
    have hIe : Ints w1 (sv be res.length res.length) (endL L) := by have := hOe.ints; rw [show (L.getD (L.length - 1) []).length = res.length from hel] at this; exact this
    by_cases h8 : res.length = 8
    · repeat (first | (refine isO ?_; first | refine s_move ?_ | refine s_assign ?_ | (refine isG ?_; refine g_yes rfl rfl ?_) | (refine isBin ?_; refine s_neqF rfl rfl (by omega) ?_) | refine s_extract rfl rfl ?_) | (refine isC ?_; first | refine c_sr ?_ | refine c_seq ?_) | (refine l_th ?_))
      refine s_fa Try.underlying25 rfl ty_ints rfl ?_
      refine g_yes rfl rfl ?_
      refine s_ldA ty_ints rfl hZ1 rfl ?_
      repeat (first | (refine isO ?_; first | (refine isG ?_; refine g_yes rfl rfl ?_) | (refine isBin ?_; refine s_geqT rfl rfl (by omega) ?_) | (refine isCall ?_; refine s_lenI sl_ints rfl (by assumption) ?_) | (refine isPick ?_; refine s_pickf rfl rfl ?_)) | (refine isC ?_; first | refine c_sr ?_ | refine c_ift rfl ?_) | (refine l_th ?_))
      refine s_call ok_lives rfl (lives_ct w1) ?_
      rintro u w2 ⟨rfl, hx2⟩
      repeat (first | (refine isO ?_; refine s_assign ?_) | (refine isC ?_; refine c_ret ?_) | (first | refine l_th ?_ | refine th_ret ?_))
      exact ret1 rfl rfl ⟨rfl, hx01.trans hx2⟩
    · refine Exists.elim (show ∃ q : Nat, q = x1 % res.length from ⟨_, rfl⟩) fun q hq => ?_
      have hq' : q < res.length := by rw [hq]; exact Nat.mod_lt _ (by omega)
      repeat (first | (refine isO ?_; first | refine s_move ?_ | refine s_assign ?_ | (refine isG ?_; refine g_yes rfl rfl ?_) | (refine isBin ?_; refine s_neqF rfl rfl (by omega) ?_) | refine s_extract rfl rfl ?_) | (refine isC ?_; first | refine c_sr ?_ | refine c_seq ?_) | (refine l_th ?_))
      refine s_fa Try.underlying25 rfl ty_ints rfl ?_
      refine g_yes rfl rfl ?_
      refine s_ldA ty_ints rfl hZ1 rfl ?_
      repeat (first | (refine isO ?_; first | refine s_move ?_ | (refine isG ?_; refine g_yes rfl rfl ?_) | (refine isBin ?_; refine s_geqF rfl rfl (by omega) ?_) | (refine isCall ?_; refine s_lenI sl_ints rfl (by assumption) ?_) | (refine isPick ?_; refine s_pickf rfl rfl ?_)) | (refine isC ?_; first | refine c_sr ?_ | refine c_th ?_ | refine c_iff rfl ?_) | (refine l_th ?_))
      refine s_conv (n := x1) (by kernel_rfl) Try.underlying3 rfl (by show _ ≤ 9223372036854775807; omega) ?_
      skip
      refine s_fa Try.underlying25 rfl ty_ints rfl ?_
      refine s_ldA ty_ints rfl hZ1 rfl ?_
      repeat ((refine isO ?_; (refine isCall ?_; refine s_lenI sl_ints rfl (by assumption) ?_)))
      refine s_rem (m := x1) (n := res.length) rfl rfl (by omega) ?_
      refine s_re (v' := .int .i64 (q : Int)) (vint (by omega)) ?_
      repeat (first | (refine isO ?_; refine s_assign ?_) | (refine isC ?_; refine c_sr ?_) | (refine l_th ?_))
      refine s_ldV Try.underlying25 rfl (sz_mk _ _ _) rfl hZ1 ?_
      refine s_call ok_mGains rfl (mGains_ct rv bv ov res bids ord w1 hM1 hck) ?_
      rintro u w2 ⟨bG, rfl, hG, hx2⟩
      have hZ2 := hZ1.ex hx2
      have hr2 := hr1.ex hx2
      have hgl := gains_len res bids
      have hgood := gains_good hOK
      have hmgood := more_good hOK q
      have hc1 := check_of hn1 hn8 hgood
      have hc2 := check_of (n := res.length + 1) (by omega) (by omega) hmgood
      have hlaw := more_lawE hOK hR hLg hq'
      have hb1 := bestF_bnd hgood (List.range res.length)
      have hb2 := bestF_bnd hmgood (List.range (res.length + 1))
      have hV1 : VV (gainsL res bids) res.length = bestF (gainsL res bids) (List.range res.length) := rfl
      have hV2 : VV (moreG (gainsL res bids) q) (res.length + 1) = bestF (moreG (gainsL res bids) q) (List.range (res.length + 1)) := rfl
      rw [← hV1, List.length_range] at hb1
      rw [← hV2, List.length_range] at hb2
      repeat (first | (refine isO ?_; first | refine s_move ?_ | refine s_assign ?_ | refine s_extract rfl rfl ?_) | (refine isC ?_; refine c_sr ?_) | (refine l_th ?_))
      refine s_fa Try.underlying25 rfl ty_ints rfl ?_
      refine s_ldA ty_ints rfl hZ2 rfl ?_
      repeat ((refine isO ?_; (refine isCall ?_; refine s_lenI sl_ints rfl (by assumption) ?_)))
      refine s_call ok_Best rfl (Best_ok (sv bG bids.length bids.length) (gainsL res bids) res.length w2 hG hc1) ?_
      rintro u w3 ⟨rfl, hx3⟩
      have hG3 := hG.ex hx3
      have hx13 := hx2.trans hx3
      repeat (first | (refine isO ?_; first | refine s_move ?_ | refine s_assign ?_ | refine s_extract rfl rfl ?_) | (refine isC ?_; first | refine c_sr ?_ | refine c_seq ?_ | refine c_block ?_) | (refine l_th ?_))
      refine c_loop2 604462909244364633944080 (fun (i : Nat) (v : Value) => [(13, .int .i64 (i : Int)), (12, v)]) (fun i v V => i ≤ bids.length ∧ BD w3 V 22 v ((moreG (gainsL res bids) q).take i) ∧ Ex w3 V) (fun i _ => bids.length - i) 0 (.slice none 0 0) ⟨rfl, rfl, trivial⟩ ⟨Nat.zero_le _, BD.nil _ _ _, Ex.refl _⟩ ?_
      rintro i v ρ V ⟨hi, hB, hxV⟩
      have hlen : (sv bG bids.length bids.length) = sv bG bids.length bids.length := rfl
      repeat (first | (refine isO ?_; first | refine s_move ?_ | (refine isBin ?_; refine s_lss rfl rfl ?_) | (refine isCall ?_; refine s_len sl_rows rfl ?_)) | (refine isC ?_; first | refine c_sr ?_ | refine c_seq ?_) | (refine l_th ?_))
      refine c_ifd rfl (fun h3 => ?_) (fun h3 => ?_)
      · have hi' : i < bids.length := by omega
        have hig : i < (gainsL res bids).length := by omega
        have hrl := gains_len_row res hi'
        have hgb := gains_bd hOK i q
        repeat (first | (refine isO ?_; refine s_move ?_) | (refine isC ?_; first | refine c_sr ?_ | refine c_th ?_ | refine c_seq ?_ | refine c_block ?_))
        refine s_ixR0 sl_rows ty_ints hG3 hxV rfl rfl rfl hig ?_
        intro _ u1 hu1
        have hu1V := hu1.ex hxV
        repeat (first | (refine isO ?_; first | (refine isBin ?_; refine s_geqF rfl rfl (by omega) ?_) | (refine isCall ?_; refine s_lenI sl_ints rfl (by assumption) ?_)) | (refine isC ?_; first | refine c_th ?_ | refine c_iff rfl ?_) | (refine l_th ?_))
        refine c_drawF hxV 0 8 [(0, true), (1, true), (2, true), (3, true), (4, true), (6, true), (7, true), (8, true), (9, true), (10, true), (11, true), (12, true)] 5 [(13, false), (14, false), (15, false), (16, false), (17, true)] 13 [(5, false), (14, false), (15, false), (16, false), (17, true)] mixed (by kernel_rfl) ?_
        have hxd := hxV.trans (Ex.drew V)
        refine d_move rfl ?_
        refine d_move rfl ?_
        refine d_move rfl ?_
        refine d_iaR (n := i) rfl sl_rows ty_ints rfl rfl hG3 hig ?_
        intro ad1 u2 hc1' hu2
        refine d_ld rfl ty_ints rfl hc1' ?_
        refine d_move rfl ?_
        refine d_move rfl ?_
        refine d_iaR (n := i) rfl sl_rows ty_ints rfl rfl hG3 hig ?_
        intro ad3 u3 hc3' hu3
        refine d_ld rfl ty_ints rfl hc3' ?_
        refine d_move rfl ?_
        refine d_iaI (n := q) rfl sl_ints ty_int rfl rfl hu3 (by omega) ?_
        intro ad4 hc4
        refine d_ld rfl ty_int rfl hc4 ?_
        have hBd := hB.ex (Ex.drew V)
        have hBl := hBd.lt
        refine d_fork ?_ ?_
        · refine d_ch rfl ?_
          refine s_call ok_TwinInts rfl (TwinIntsW_ct u2 _ V.drew (hu2.ex hxd) (by omega)) ?_
          rintro u V1 ⟨bt, ct, rfl, hbt, hT, hx1V⟩
          refine l_nil ⟨rfl, .inr (hxd.trans hx1V), ?_⟩
          refine d_ch rfl ?_
          refine s_bs1 (u := .int .i64 (((gainsL res bids).getD i []).getD q 0)) sl_ints in_int rfl rfl ?_
          intro bq V2 hbq hAq hxq hsq
          have hx2V := hx1V.trans hxq
          refine l_nil ⟨rfl, .inr (hxd.trans hx2V), ?_⟩
          refine d_ch rfl ?_
          refine s_appW (m := 1) (news := [.int .i64 (((gainsL res bids).getD i []).getD q 0)]) sl_ints wd_int (by omega) (hT.wd.ex hxq) ⟨bq, 1, rfl, [], by simpa using hAq⟩ rfl (by omega) (by intro p hp; simp at hp; subst hp; rfl) (by omega) (by omega) rfl rfl ?_
          intro v' V3 hW3 hg3 hf3
          have hW3' : Wd V3 3 1 v' (((gainsL res bids).getD i []).length + 1) ((((gainsL res bids).getD i []) ++ [((gainsL res bids).getD i []).getD q 0]).map (Value.int .i64)) := by rw [List.map_append]; exact hW3
          have z2 := hx2V.size
          have hbt2 : V.drew.heap.size ≤ bt := hbt
          have hx3V : Ex V.drew V3 := hx2V.storeo hg3 (fun b e => by have h5 : bt = b := Option.some.inj e; omega)
          have hvo : ∀ b, v'.ownBlock = some b → V.drew.heap.size ≤ b := fun b hb => hf3.elim (fun h => Exists.elim h fun a h => Exists.elim h fun c h => by
            have e1 := h.1
            have e2 : a = some ⟨bt, 0, none⟩ := (Value.slice.inj e1).1.symm
            rw [h.2, e2] at hb
            have h5 : bt = b := Option.some.inj hb
            omega) (fun h => by have := h.1 b hb; omega)
          have hI3 := hW3'.ints (by omega)
          refine l_nil ⟨rfl, .inr (hxd.trans hx3V), ?_⟩
          refine d_ch rfl ?_
          refine s_bs1 (u := v') sl_rows in_ints rfl hW3.one ?_
          intro br V4 hbr hAr hxr hsr
          have hx4V := hx3V.trans hxr
          refine l_nil ⟨rfl, .inr (hxd.trans hx4V), ?_⟩
          refine d_ch rfl ?_
          refine s_bapp (w1 := V.drew) sl_rows in_ints hBd hxd hx4V hAr (hI3.ex hxr) ((hI3.ex hxr).fresh hvo hBd) rfl rfl (by simp; omega) ?_
          intro v'' V5 hB5 hx5
          rw [← moreG_succ hig] at hB5
          refine l_nil ⟨rfl, .inr hx5, ?_⟩
          refine d_assign rfl ?_
          refine d_nil ?_
          repeat (first | (refine isO ?_; first | refine s_move ?_ | refine s_assign ?_ | (refine isBin ?_; refine s_inc rfl (by omega) ?_)) | (refine isC ?_; refine c_region ?_) | (refine l_th ?_))
          exact loop_end2 (i + 1) v'' (by (repeat (first | exact agree_refl _ _ | refine agree_upd rfl ?_ | refine agree_ext rfl ?_ | refine agree_mask rfl ?_))) ⟨vint (by omega), rfl, trivial⟩ ⟨hi', hB5, hx5⟩ (by show bids.length - (i + 1) < bids.length - i; omega)
        · refine d_ch rfl ?_
          refine s_bs1 (u := .int .i64 (((gainsL res bids).getD i []).getD q 0)) sl_ints in_int rfl rfl ?_
          intro bq V1 hbq hAq hxq hsq
          refine l_nil ⟨rfl, .inr (hxd.trans hxq), ?_⟩
          refine d_ch rfl ?_
          refine s_call ok_TwinInts rfl (TwinIntsW_ct u2 _ V1 (hu2.ex (hxd.trans hxq)) (by omega)) ?_
          rintro u V2 ⟨bt, ct, rfl, hbt, hT, hx12V⟩
          have hx2V := hxq.trans hx12V
          refine l_nil ⟨rfl, .inr (hxd.trans hx2V), ?_⟩
          refine d_ch rfl ?_
          refine s_appW (m := 1) (news := [.int .i64 (((gainsL res bids).getD i []).getD q 0)]) sl_ints wd_int (by omega) hT.wd ⟨bq, 1, rfl, [], by simpa using hAq.ex hx12V⟩ rfl (by omega) (by intro p hp; simp at hp; subst hp; rfl) (by omega) (by omega) rfl rfl ?_
          intro v' V3 hW3 hg3 hf3
          have hW3' : Wd V3 3 1 v' (((gainsL res bids).getD i []).length + 1) ((((gainsL res bids).getD i []) ++ [((gainsL res bids).getD i []).getD q 0]).map (Value.int .i64)) := by rw [List.map_append]; exact hW3
          have zq := hxq.size
          have z2 := hx2V.size
          have hbt2 : V.drew.heap.size ≤ bt := by omega
          have hx3V : Ex V.drew V3 := hx2V.storeo hg3 (fun b e => by have h5 : bt = b := Option.some.inj e; omega)
          have hvo : ∀ b, v'.ownBlock = some b → V.drew.heap.size ≤ b := fun b hb => hf3.elim (fun h => Exists.elim h fun a h => Exists.elim h fun c h => by
            have e1 := h.1
            have e2 : a = some ⟨bt, 0, none⟩ := (Value.slice.inj e1).1.symm
            rw [h.2, e2] at hb
            have h5 : bt = b := Option.some.inj hb
            omega) (fun h => by have := h.1 b hb; omega)
          have hI3 := hW3'.ints (by omega)
          refine l_nil ⟨rfl, .inr (hxd.trans hx3V), ?_⟩
          refine d_ch rfl ?_
          refine s_bs1 (u := v') sl_rows in_ints rfl hW3.one ?_
          intro br V4 hbr hAr hxr hsr
          have hx4V := hx3V.trans hxr
          refine l_nil ⟨rfl, .inr (hxd.trans hx4V), ?_⟩
          refine d_ch rfl ?_
          refine s_bapp (w1 := V.drew) sl_rows in_ints hBd hxd hx4V hAr (hI3.ex hxr) ((hI3.ex hxr).fresh hvo hBd) rfl rfl (by simp; omega) ?_
          intro v'' V5 hB5 hx5
          rw [← moreG_succ hig] at hB5
          refine l_nil ⟨rfl, .inr hx5, ?_⟩
          refine d_assign rfl ?_
          refine d_nil ?_
          repeat (first | (refine isO ?_; first | refine s_move ?_ | refine s_assign ?_ | (refine isBin ?_; refine s_inc rfl (by omega) ?_)) | (refine isC ?_; refine c_region ?_) | (refine l_th ?_))
          exact loop_end2 (i + 1) v'' (by (repeat (first | exact agree_refl _ _ | refine agree_upd rfl ?_ | refine agree_ext rfl ?_ | refine agree_mask rfl ?_))) ⟨vint (by omega), rfl, trivial⟩ ⟨hi', hB5, hx5⟩ (by show bids.length - (i + 1) < bids.length - i; omega)
      · have hin : i = bids.length := by omega
        subst hin
        rw [List.take_of_length_le (by rw [moreG_len]; omega)] at hB
        have hRm := hB.rows (by rw [moreG_len]; omega)
        have hx1V := hx13.trans hxV
        have hZV := hZ1.ex hx1V
        have hrV := hr1.ex hx1V
        repeat (first | (refine isO ?_; refine s_move ?_) | (refine isC ?_; first | refine c_sr ?_ | refine c_exit ?_))
        refine s_fa Try.underlying25 rfl ty_ints rfl ?_
        refine s_ldA ty_ints rfl hZV rfl ?_
        repeat ((refine isO ?_; first | (refine isBin ?_; refine s_inc rfl (by omega) ?_) | (refine isCall ?_; refine s_lenI sl_ints rfl (by assumption) ?_)))
        refine s_call (vs := [v, .int .i64 ((res.length + 1 : Nat) : Int)]) ok_Best rfl (Best_ok v (moreG (gainsL res bids) q) (res.length + 1) V hRm hc2) ?_
        rintro u V2 ⟨rfl, hx2V⟩
        have hZ9 := hZV.ex hx2V
        have hr9 := hrV.ex hx2V
        have hx19 := hx1V.trans hx2V
        have hIe9 := hIe.ex hx19
        have hbr := hOK.rb q
        repeat (first | (refine isO ?_; first | refine s_move ?_ | refine s_assign ?_ | refine s_extract rfl rfl ?_) | (refine isC ?_; refine c_seq ?_) | (refine l_th ?_))
        refine c_drawO (Ex.refl V2) 0 8 [(0, true), (1, true), (2, true), (3, true), (4, true), (5, true), (6, true), (7, true), (8, true), (9, true), (10, true), (11, true), (12, true), (13, true), (14, true), (15, true), (16, true), (17, true), (18, true), (19, true), (20, true), (21, true), (22, true), (23, true), (24, true), (25, true), (26, true), (27, true), (28, true), (29, true), (30, true), (31, true), (32, true), (33, false), (34, true), (35, true)] mixed (by kernel_rfl) ?_
        have hxd := Ex.drew V2
        refine d_move rfl ?_
        refine d_eql rfl rfl rfl ?_
        refine d_re (v' := .bool true) rfl ?_
        refine d_move rfl ?_
        refine d_move rfl ?_
        refine d_eql rfl rfl rfl ?_
        refine d_re (v' := .bool true) rfl ?_
        refine d_pickt rfl rfl rfl ?_
        refine d_move rfl ?_
        refine d_move rfl ?_
        refine d_eql rfl rfl rfl ?_
        refine d_re (v' := .bool true) rfl ?_
        refine d_pickt rfl rfl rfl ?_
        refine d_move rfl ?_
        refine d_move rfl ?_
        refine d_move rfl ?_
        refine d_lenIO rfl sl_ints rfl hIe9 ?_
        refine d_lss rfl rfl rfl ?_
        refine d_re (v' := .bool true) (vbool (decide_eq_true (by omega))) ?_
        refine d_pickt rfl rfl rfl ?_
        refine d_move rfl ?_
        refine d_move rfl ?_
        refine d_move rfl ?_
        refine d_iaI (n := q) rfl sl_ints ty_int rfl rfl hIe9 (by omega) ?_
        intro ad1 hc1'
        refine d_ld rfl ty_int rfl hc1' ?_
        refine d_fa rfl Try.underlying25 rfl ty_ints rfl ?_
        refine d_ldA rfl ty_ints rfl hZ9 rfl ?_
        refine d_move rfl ?_
        refine d_iaI (n := q) rfl sl_ints ty_int rfl rfl hr9 (by omega) ?_
        intro ad2 hc2'
        refine d_ld rfl ty_int rfl hc2' ?_
        refine d_move rfl ?_
        refine d_add rfl rfl rfl ⟨by omega, by omega⟩ ?_
        refine d_move rfl ?_
        refine d_sub rfl rfl rfl ⟨by omega, by omega⟩ ?_
        refine d_eql rfl rfl rfl ?_
        refine d_re (v' := .bool true) (vbool (decide_eq_true (by omega))) ?_
        refine d_pickt rfl rfl rfl ?_
        refine d_move rfl ?_
        refine d_ch rfl ?_
        refine g_yes rfl rfl ?_
        refine s_call ok_lives rfl (lives_ct V2.drew) ?_
        rintro u V3 ⟨rfl, hx3V⟩
        refine l_nil ⟨rfl, .inr (hxd.trans hx3V), ?_⟩
        refine d_pickt rfl rfl rfl ?_
        refine d_assign rfl ?_
        refine d_nil ?_
        repeat ((refine isC ?_; refine c_ret ?_))
        exact ret1 rfl rfl ⟨rfl, hx01.trans (hx19.trans (hxd.trans hx3V))⟩
  · refine s_call ok_rLeast rfl (Least_bad rv bv ov res bids ord w0 hM0 hck) ?_
    rintro u w1 ⟨rfl, hx1⟩
    repeat (first | (refine isO ?_; first | refine s_move ?_ | refine s_assign ?_ | (refine isG ?_; refine g_no rfl rfl rfl ?_) | (refine isBin ?_; refine s_neqT rfl rfl (by omega) ?_) | (refine isPick ?_; refine s_pickt rfl rfl ?_) | refine s_extract rfl rfl ?_) | (refine isC ?_; first | refine c_sr ?_ | refine c_seq ?_ | refine c_ift rfl ?_) | (refine l_th ?_))
    refine s_call ok_lives rfl (lives_ct w1) ?_
    rintro u w2 ⟨rfl, hx2⟩
    repeat (first | (refine isO ?_; refine s_assign ?_) | (refine isC ?_; refine c_ret ?_) | (first | refine l_th ?_ | refine th_ret ?_))
    exact ret1 rfl rfl ⟨rfl, hx0.trans (hx1.trans hx2)⟩
end Go.Proofs.Ytifbgpkjbciblaa.Sal
end
