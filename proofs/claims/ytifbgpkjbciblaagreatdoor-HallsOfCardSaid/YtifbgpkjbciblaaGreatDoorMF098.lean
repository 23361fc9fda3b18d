/- Texts that YtifbgpkjbciblaaGreatDoorF09 leans on, laid together: R6a R9 G2c M9 BO2 L09. -/
import Derived.Test.YtifbgpkjbciblaaGreatDoorMF093
import Derived.Test.YtifbgpkjbciblaaGreatDoorMF097
/- The document's answer on graphs (salesroomref06): Rises, Has, Check, Many. -/
set_option maxRecDepth 100000
namespace Go.Proofs.YtifbgpkjbciblaaGreatDoor.Sal
open Go.RowKit
section
variable {r : Option Nat} {P : Program} {J : World → Prop} {z : Nat} {Q : Exit → Act → World → Prop} {N : Nat} {σ : Nat → Value} {ds : List Deferred} {w : World}
variable {ops : Array Oper} {i d : Nat} {π : List (Nat × Bool)} {ty : TypeId} {pos : String} {after : Array Edge}
theorem wanted_unW {o : Oper} {j g : Nat} {want : Bool} (hg : o.guard = some (j, want)) (hj : (ops[j]?).bind (·.dst) = some g) (hb : ev N σ (.tmp g) = undef) : Region.wanted o (yielded ops (mk N σ ds).tmps) = false := by
  have e : (mk N σ ds).tmps.getD g undef = undef := (getD_mk N σ g).trans hb
  have y : yielded ops (mk N σ ds).tmps j = none := by
    unfold yielded
    rw [hj]
    by_cases hl : g < (mk N σ ds).tmps.size
    · have e2 : (mk N σ ds).tmps[g]? = some undef := by
        rw [Array.getElem?_eq_getElem hl]
        have h3 := e
        unfold Array.getD at h3
        rw [dif_pos hl] at h3
        exact congrArg some h3
      simp [e2, undef]
    · simp [Array.getElem?_eq_none (Nat.le_of_not_lt hl)]
  unfold Region.wanted
  rw [hg]
  simp only [y]
  cases want <;> rfl
theorem d_gunW {op : Op} {j g : Nat} {want : Bool} (hi : ops[i]? = some ⟨some d, op, ty, pos, after, some (j, want)⟩) (hj : (ops[j]?).bind (·.dst) = some g) (hb : ev N σ (.tmp g) = undef)
    (h : WJ r P ops J z Q π (mk N (upd σ d undef) ds) w) : WJ r P ops J z Q ((i, true) :: π) (mk N σ ds) w :=
  ⟨_, undef, hi, .inr ⟨wanted_unW (g := g) rfl hj hb, rfl⟩, by rw [put_mk]; exact h⟩
end
theorem lastD_at : ∀ (l : List Int) (a : Int) (k : Nat), k < l.length → lastD a (l.take (k + 1)) = l.getD k 0
  | x :: l, a, 0, _ => by simp [lastD]
  | x :: l, a, k + 1, h => by
    simp only [List.take_succ_cons, lastD, List.getD_cons_succ]
    exact lastD_at l x k (by simpa using h)
theorem risB_low : ∀ (l : List Int) (a m : Int), risB a l m = true → ∀ i, i < l.length → a < l.getD i 0
  | x :: l, a, m, h, 0, _ => by
    simp only [risB, Bool.and_eq_true, Bool.not_eq_true', Bool.or_eq_false_iff, decide_eq_false_iff_not] at h
    simp; omega
  | x :: l, a, m, h, i + 1, hi => by
    simp only [risB, Bool.and_eq_true, Bool.not_eq_true', Bool.or_eq_false_iff, decide_eq_false_iff_not] at h
    have := risB_low l x m h.2 i (by simpa using hi)
    simp only [List.getD_cons_succ]; omega
theorem tf6 (b : Bool) : b = true ∨ b = false := by cases b <;> simp
attribute [local irreducible] Go.Code.wpIn Go.wpListIn Ct Ints Rows Sl At Rw WJ
set_option linter.all false
theorem ok_Has6 : CallOK Tryz.prog 77 := callOK Tryz.func77 (by kernel_rfl) rfl
theorem ok_Rises6 : CallOK Tryz.prog 40 := callOK Tryz.func40 (by kernel_rfl) rfl
theorem ok_Check6 : CallOK Tryz.prog 36 := callOK Tryz.func36 (by kernel_rfl) rfl
theorem Has6_ct (v : Value) (l : List Int) (q : Int) (w : World) (hl : Ints w v l) :
    Ct Tryz.prog 77 #[v, .int .i64 q] w fun u w' => u = .bool (l.contains q) ∧ Ex w w' := by
  have hlen := hl.len
  refine enter (N := 18) (vs := [v, .int .i64 q]) Tryz.func77 rfl rfl rfl ?_
  repeat (first | (refine isO ?_; refine s_assign ?_) | (refine isC ?_; first | refine c_sr ?_ | refine c_seq ?_ | refine c_block ?_) | (refine l_th ?_))
  refine c_loop (γ := Nat) 262128 (fun k => [(5, .int .i64 (k : Int))]) (fun k w' => k ≤ l.length ∧ (l.take k).contains q = false ∧ Ex w w') (fun k => l.length - k) 0 ⟨rfl, trivial⟩ ⟨Nat.zero_le _, rfl, Ex.refl _⟩ ?_
  rintro k ρ w' ⟨hk, hno, hx⟩
  have hl' := hl.ex hx
  repeat (first | (refine isO ?_; first | refine s_move ?_ | (refine isBin ?_; refine s_lss rfl rfl ?_) | (refine isCall ?_; refine s_lenI sl_ints rfl (by assumption) ?_)) | (refine isC ?_; first | refine c_sr ?_ | refine c_seq ?_) | (refine l_th ?_))
  refine c_ifd rfl (fun h => ?_) (fun h => ?_)
  · have hk' : k < l.length := by omega
    have ha := any_has l q k hk' hno
    by_cases hp : l.getD k 0 = q
    · repeat (first | (refine isO ?_; first | refine s_move ?_ | refine s_assign ?_ | (refine isBin ?_; refine s_eqlT rfl rfl (by omega) ?_) | (refine isIA ?_; refine s_ixI sl_ints ty_int rfl rfl rfl (by assumption) (by omega) ?_; intro _)) | (refine isC ?_; first | refine c_sr ?_ | refine c_th ?_ | refine c_seq ?_ | refine c_ift rfl ?_ | refine c_block ?_ | refine c_ret ?_) | (first | refine l_th ?_ | refine th_ret ?_ | refine ib_ret ?_))
      refine ret1 rfl rfl ⟨vbool ?_, hx⟩
      symm
      rw [List.contains_iff_mem, ← hp, List.getD_eq_getElem?_getD, List.getElem?_eq_getElem hk']
      exact List.getElem_mem hk'
    · rw [decide_eq_false hp] at ha
      repeat (first | (refine isO ?_; first | refine s_move ?_ | refine s_assign ?_ | (refine isBin ?_; first | refine s_inc rfl (by omega) ?_ | refine s_eqlF rfl rfl (by omega) ?_) | (refine isIA ?_; refine s_ixI sl_ints ty_int rfl rfl rfl (by assumption) (by omega) ?_; intro _)) | (refine isC ?_; first | refine c_sr ?_ | refine c_th ?_ | refine c_seq ?_ | refine c_region ?_ | refine c_iff rfl ?_ | refine c_block ?_ | refine c_skip ?_) | (refine l_th ?_))
      exact loop_end (k + 1) (by (repeat (first | exact agree_refl _ _ | refine agree_upd rfl ?_ | refine agree_ext rfl ?_ | refine agree_mask rfl ?_))) ⟨rfl, trivial⟩ ⟨hk', ha, hx⟩ (by omega)
  · rw [List.take_of_length_le (by omega)] at hno
    repeat (first | (refine isO ?_; refine s_assign ?_) | (refine isC ?_; first | refine c_sr ?_ | refine c_ret ?_ | refine c_exit ?_) | (refine l_th ?_))
    exact ret1 rfl rfl ⟨vbool hno.symm, hx⟩
set_option maxHeartbeats 1000000 in
theorem Rises6_ct (v : Value) (l : List Int) (m : Int) (w : World) (hl : Ints w v l) :
    Ct Tryz.prog 40 #[v, .int .i64 m] w fun u w' => u = .bool (risB (-1) l m) ∧ Ex w w' := by
  have hlen := hl.len
  refine enter (N := 41) (vs := [v, .int .i64 m]) Tryz.func40 rfl rfl rfl ?_
  repeat (first | (refine isO ?_; refine s_assign ?_) | (refine isC ?_; first | refine c_sr ?_ | refine c_seq ?_ | refine c_block ?_) | (refine l_th ?_))
  refine c_loop (γ := Nat) 2199023255536 (fun k => [(5, .int .i64 (k : Int))]) (fun k w' => k ≤ l.length ∧ risB (-1) (l.take k) m = true ∧ Ex w w') (fun k => l.length - k) 0 ⟨rfl, trivial⟩ ⟨Nat.zero_le _, rfl, Ex.refl _⟩ ?_
  rintro k ρ W ⟨hk, hok, hx⟩
  have hlW := hl.ex hx
  repeat (first | (refine isO ?_; first | refine s_move ?_ | (refine isBin ?_; refine s_lss rfl rfl ?_) | (refine isCall ?_; refine s_lenI sl_ints rfl (by assumption) ?_)) | (refine isC ?_; first | refine c_sr ?_ | refine c_seq ?_) | (refine l_th ?_))
  refine c_ifd rfl (fun h => ?_) (fun h => ?_)
  · have hk' : k < l.length := by omega
    have ht := risB_take m l (-1) k hk' hok
    have ht1 := ht.1
    have ht3 := ht.2.2
    have hprev : (k = 0 ∧ lastD (-1) (l.take k) = -1) ∨ (0 < k ∧ lastD (-1) (l.take k) = l.getD (k - 1) 0 ∧ -1 < l.getD (k - 1) 0) := by
      by_cases h0 : k = 0
      · subst h0; exact .inl ⟨rfl, rfl⟩
      · right
        have e : k - 1 + 1 = k := by omega
        have h1 := lastD_at l (-1) (k - 1) (by omega)
        rw [e] at h1
        have h2 := risB_low (l.take k) (-1) m hok (k - 1) (by rw [List.length_take]; omega)
        have e3 : (l.take k).getD (k - 1) 0 = l.getD (k - 1) 0 := by
          rw [List.getD_eq_getElem?_getD, List.getD_eq_getElem?_getD, List.getElem?_take, if_pos (by omega)]
        rw [e3] at h2
        exact ⟨by omega, h1, h2⟩
    have hxd := hx.trans (Ex.drew W)
    repeat ((refine isC ?_; first | refine c_th ?_ | refine c_seq ?_ | refine c_block ?_))
    refine c_drawO hx 29 8 [(0, true), (1, true), (2, true), (3, true), (4, true), (5, true), (6, true), (7, true), (8, true), (9, true), (10, true), (11, true), (12, true), (13, true), (14, true), (15, true), (16, true), (17, true), (18, true), (19, true), (20, true), (21, true), (22, true), (23, true), (24, true), (25, true), (26, true), (27, true), (28, true)] mixed (by kernel_rfl) ?_
    refine d_move rfl ?_
    refine d_move rfl ?_
    refine d_iaI (n := k) rfl sl_ints ty_int rfl rfl hl hk' ?_
    intro ad1 hc1
    refine d_ld rfl ty_int rfl hc1 ?_
    refine d_lss rfl rfl rfl ?_
    by_cases h1 : l.getD k 0 < 0
    · have hbad : risB (-1) l m = false := ht3 (by
        rw [ht1, decide_eq_true (show l.getD k 0 ≤ lastD (-1) (l.take k) by rcases hprev with ⟨_, e⟩ | ⟨_, e, e2⟩ <;> omega)]; rfl)
      refine d_re (v' := .bool true) (vbool (decide_eq_true h1)) ?_
      refine d_move rfl ?_
      refine d_gno rfl rfl rfl rfl ?_
      refine d_gno rfl rfl rfl rfl ?_
      refine d_gno rfl rfl rfl rfl ?_
      refine d_gno rfl rfl rfl rfl ?_
      refine d_gno rfl rfl rfl rfl ?_
      refine d_gno rfl rfl rfl rfl ?_
      refine d_pickt rfl rfl rfl ?_
      refine d_move rfl ?_
      refine d_gno rfl rfl rfl rfl ?_
      refine d_gno rfl rfl rfl rfl ?_
      refine d_gno rfl rfl rfl rfl ?_
      refine d_gunW rfl rfl rfl ?_
      refine d_gunW rfl rfl rfl ?_
      refine d_gunW rfl rfl rfl ?_
      refine d_gunW rfl rfl rfl ?_
      refine d_gunW rfl rfl rfl ?_
      refine d_gunW rfl rfl rfl ?_
      refine d_gunW rfl rfl rfl ?_
      refine d_gunW rfl rfl rfl ?_
      refine d_gunW rfl rfl rfl ?_
      refine d_gunW rfl rfl rfl ?_
      refine d_gno rfl rfl rfl rfl ?_
      refine d_pickt rfl rfl rfl ?_
      refine d_nil ?_
      repeat (first | (refine isO ?_; refine s_assign ?_) | (refine isC ?_; first | refine c_sr ?_ | refine c_ift rfl ?_ | refine c_ret ?_) | (first | refine l_th ?_ | refine th_ret ?_ | refine ib_ret ?_))
      exact ret1 rfl rfl ⟨vbool hbad.symm, hxd⟩
    · refine d_re (v' := .bool false) (vbool (decide_eq_false h1)) ?_
      refine d_move rfl ?_
      refine d_move rfl ?_
      refine d_move rfl ?_
      refine d_iaI (n := k) rfl sl_ints ty_int rfl rfl hl hk' ?_
      intro ad2 hc2
      refine d_ld rfl ty_int rfl hc2 ?_
      refine d_move rfl ?_
      refine d_geq rfl rfl rfl ?_
      by_cases h2 : m ≤ l.getD k 0
      · have hbad : risB (-1) l m = false := ht3 (by rw [ht1, decide_eq_true h2, Bool.or_true]; rfl)
        refine d_re (v' := .bool true) (vbool (decide_eq_true h2)) ?_
        refine d_pickf rfl rfl rfl ?_
        refine d_move rfl ?_
        refine d_gno rfl rfl rfl rfl ?_
        refine d_gno rfl rfl rfl rfl ?_
        refine d_gno rfl rfl rfl rfl ?_
        refine d_gunW rfl rfl rfl ?_
        refine d_gunW rfl rfl rfl ?_
        refine d_gunW rfl rfl rfl ?_
        refine d_gunW rfl rfl rfl ?_
        refine d_gunW rfl rfl rfl ?_
        refine d_gunW rfl rfl rfl ?_
        refine d_gunW rfl rfl rfl ?_
        refine d_gunW rfl rfl rfl ?_
        refine d_gunW rfl rfl rfl ?_
        refine d_gunW rfl rfl rfl ?_
        refine d_gno rfl rfl rfl rfl ?_
        refine d_pickt rfl rfl rfl ?_
        refine d_nil ?_
        repeat (first | (refine isO ?_; refine s_assign ?_) | (refine isC ?_; first | refine c_sr ?_ | refine c_ift rfl ?_ | refine c_ret ?_) | (first | refine l_th ?_ | refine th_ret ?_ | refine ib_ret ?_))
        exact ret1 rfl rfl ⟨vbool hbad.symm, hxd⟩
      · refine d_re (v' := .bool false) (vbool (decide_eq_false h2)) ?_
        refine d_pickf rfl rfl rfl ?_
        refine d_move rfl ?_
        refine d_move rfl ?_
        refine d_gtr rfl rfl rfl ?_
        by_cases h0 : k = 0
        · have hok1 : risB (-1) (l.take (k + 1)) m = true := by
            rw [ht1, decide_eq_false h2, decide_eq_false (show ¬ l.getD k 0 ≤ lastD (-1) (l.take k) by rcases hprev with ⟨_, e⟩ | ⟨_, e, e2⟩ <;> omega)]; rfl
          refine d_re (v' := .bool false) (vbool (decide_eq_false (by omega))) ?_
          refine d_move rfl ?_
          refine d_gno rfl rfl rfl rfl ?_
          refine d_gno rfl rfl rfl rfl ?_
          refine d_gno rfl rfl rfl rfl ?_
          refine d_gno rfl rfl rfl rfl ?_
          refine d_gno rfl rfl rfl rfl ?_
          refine d_gno rfl rfl rfl rfl ?_
          refine d_gno rfl rfl rfl rfl ?_
          refine d_gno rfl rfl rfl rfl ?_
          refine d_gno rfl rfl rfl rfl ?_
          refine d_gno rfl rfl rfl rfl ?_
          refine d_pickf rfl rfl rfl ?_
          refine d_pickf rfl rfl rfl ?_
          refine d_nil ?_
          repeat (first | (refine isO ?_; first | refine s_move ?_ | refine s_assign ?_ | (refine isBin ?_; refine s_inc rfl (by omega) ?_)) | (refine isC ?_; first | refine c_region ?_ | refine c_iff rfl ?_ | refine c_skip ?_) | (refine l_th ?_))
          exact loop_end (k + 1) (by (repeat (first | exact agree_refl _ _ | refine agree_upd rfl ?_ | refine agree_ext rfl ?_ | refine agree_mask rfl ?_))) ⟨rfl, trivial⟩ ⟨hk', hok1, hxd⟩ (by omega)
        · refine d_re (v' := .bool true) (vbool (decide_eq_true (by omega))) ?_
          refine d_move rfl ?_
          refine d_move rfl ?_
          refine d_move rfl ?_
          refine d_iaI (n := k) rfl sl_ints ty_int rfl rfl hl hk' ?_
          intro ad3 hc3
          refine d_ld rfl ty_int rfl hc3 ?_
          refine d_move rfl ?_
          refine d_move rfl ?_
          refine d_sub rfl rfl rfl ⟨by omega, by omega⟩ ?_
          refine d_re (v' := .int .i64 ((k - 1 : Nat) : Int)) (vint (by omega)) ?_
          refine d_iaI (n := k - 1) rfl sl_ints ty_int rfl rfl hl (by omega) ?_
          intro ad4 hc4
          refine d_ld rfl ty_int rfl hc4 ?_
          refine d_leq rfl rfl rfl ?_
          have hpe : lastD (-1) (l.take k) = l.getD (k - 1) 0 := by rcases hprev with ⟨e, _⟩ | ⟨_, e, _⟩ <;> omega
          rw [hpe] at ht1
          by_cases h3 : l.getD k 0 ≤ l.getD (k - 1) 0
          · have hbad : risB (-1) l m = false := ht3 (by rw [ht1, decide_eq_true h3]; rfl)
            refine d_re (v' := .bool true) (vbool (decide_eq_true h3)) ?_
            refine d_pickt rfl rfl rfl ?_
            refine d_pickf rfl rfl rfl ?_
            refine d_nil ?_
            repeat (first | (refine isO ?_; refine s_assign ?_) | (refine isC ?_; first | refine c_sr ?_ | refine c_ift rfl ?_ | refine c_ret ?_) | (first | refine l_th ?_ | refine th_ret ?_ | refine ib_ret ?_))
            exact ret1 rfl rfl ⟨vbool hbad.symm, hxd⟩
          · have hok1 : risB (-1) (l.take (k + 1)) m = true := by rw [ht1, decide_eq_false h2, decide_eq_false h3]; rfl
            refine d_re (v' := .bool false) (vbool (decide_eq_false h3)) ?_
            refine d_pickt rfl rfl rfl ?_
            refine d_pickf rfl rfl rfl ?_
            refine d_nil ?_
            repeat (first | (refine isO ?_; first | refine s_move ?_ | refine s_assign ?_ | (refine isBin ?_; refine s_inc rfl (by omega) ?_)) | (refine isC ?_; first | refine c_region ?_ | refine c_iff rfl ?_ | refine c_skip ?_) | (refine l_th ?_))
            exact loop_end (k + 1) (by (repeat (first | exact agree_refl _ _ | refine agree_upd rfl ?_ | refine agree_ext rfl ?_ | refine agree_mask rfl ?_))) ⟨rfl, trivial⟩ ⟨hk', hok1, hxd⟩ (by omega)
  · rw [List.take_of_length_le (by omega)] at hok
    repeat (first | (refine isO ?_; refine s_assign ?_) | (refine isC ?_; first | refine c_sr ?_ | refine c_ret ?_ | refine c_exit ?_) | (refine l_th ?_))
    exact ret1 rfl rfl ⟨vbool hok.symm, hx⟩
theorem Check6_ct (v : Value) (g : List (List Int)) (n : Int) (w : World) (hg : Rows w v g) :
    Ct Tryz.prog 36 #[v, .int .i64 n] w fun u w' => u = .bool (chkG g n) ∧ Ex w w' := by
  refine enter (N := 30) (vs := [v, .int .i64 n]) Tryz.func36 rfl rfl rfl ?_
  by_cases h1 : 0 ≤ n
  · by_cases h2 : n ≤ 8
    · by_cases h3 : (g.length : Int) ≤ 8
      · repeat (first | (refine isO ?_; first | refine s_move ?_ | refine s_assign ?_ | (refine isG ?_; refine g_yes rfl rfl ?_) | (refine isBin ?_; first | refine s_lssF rfl rfl (by omega) ?_ | refine s_gtrF rfl rfl (by omega) ?_) | (refine isCall ?_; refine s_lenR sl_rows rfl (by assumption) ?_) | (refine isPick ?_; refine s_pickf rfl rfl ?_)) | (refine isC ?_; first | refine c_sr ?_ | refine c_th ?_ | refine c_seq ?_ | refine c_iff rfl ?_ | refine c_block ?_) | (refine l_th ?_))
        refine c_loop (γ := Nat) 1073610800 (fun k => [(5, .int .i64 (k : Int))]) (fun k W => k ≤ g.length ∧ ((g.take k).any fun l => !risB (-1) l n) = false ∧ Ex w W) (fun k => g.length - k) 0 ⟨rfl, trivial⟩ ⟨Nat.zero_le _, rfl, Ex.refl _⟩ ?_
        rintro k ρ W ⟨hk, hno, hx⟩
        have hgW := hg.ex hx
        repeat (first | (refine isO ?_; first | refine s_move ?_ | (refine isBin ?_; refine s_lss rfl rfl ?_) | (refine isCall ?_; refine s_lenR sl_rows rfl (by assumption) ?_)) | (refine isC ?_; first | refine c_sr ?_ | refine c_seq ?_) | (refine l_th ?_))
        refine c_ifd rfl (fun h => ?_) (fun h => ?_)
        · have hk' : k < g.length := by omega
          have hst := any_take_succ g (fun l => !risB (-1) l n) k [] hk'
          repeat (first | (refine isO ?_; refine s_move ?_) | (refine isC ?_; first | refine c_sr ?_ | refine c_th ?_ | refine c_seq ?_ | refine c_block ?_))
          refine s_ixR sl_rows ty_ints rfl rfl rfl hgW hk' ?_
          intro _ row hr
          repeat ((refine isO ?_; refine s_move ?_))
          refine s_call ok_Rises6 rfl (Rises6_ct row (g.getD k []) n W hr) ?_
          rintro x w1 ⟨rfl, hx1⟩
          refine Or.elim (tf6 (risB (-1) (g.getD k []) n)) (fun hb => ?_) (fun hb => ?_)
          · refine s_re (v' := .bool true) (vbool hb) ?_
            rw [hno, hb] at hst
            repeat (first | (refine isO ?_; first | refine s_move ?_ | refine s_assign ?_ | (refine isBin ?_; refine s_inc rfl (by omega) ?_) | refine s_not rfl ?_) | (refine isC ?_; first | refine c_region ?_ | refine c_iff rfl ?_ | refine c_skip ?_) | (refine l_th ?_))
            exact loop_end (k + 1) (by (repeat (first | exact agree_refl _ _ | refine agree_upd rfl ?_ | refine agree_ext rfl ?_ | refine agree_mask rfl ?_))) ⟨rfl, trivial⟩ ⟨hk', hst, hx.trans hx1⟩ (by omega)
          · refine s_re (v' := .bool false) (vbool hb) ?_
            have hany : (g.any fun l => !risB (-1) l n) = true := any_of_getD g _ k [] hk' (by rw [hb]; rfl)
            repeat (first | (refine isO ?_; first | refine s_assign ?_ | refine s_not rfl ?_) | (refine isC ?_; first | refine c_sr ?_ | refine c_ift rfl ?_ | refine c_ret ?_) | (first | refine l_th ?_ | refine th_ret ?_ | refine ib_ret ?_))
            exact ret1 rfl rfl ⟨vbool (by simp only [chkG, hany]; simp), hx.trans hx1⟩
        · rw [List.take_of_length_le (by omega)] at hno
          repeat (first | (refine isO ?_; refine s_assign ?_) | (refine isC ?_; first | refine c_sr ?_ | refine c_ret ?_ | refine c_exit ?_) | (refine l_th ?_))
          exact ret1 rfl rfl ⟨vbool (by simp only [chkG, hno]; simp [h1, h2, h3]), hx⟩
      · repeat (first | (refine isO ?_; first | refine s_move ?_ | refine s_assign ?_ | (refine isG ?_; refine g_yes rfl rfl ?_) | (refine isBin ?_; first | refine s_lssF rfl rfl (by omega) ?_ | refine s_gtrT rfl rfl (by omega) ?_ | refine s_gtrF rfl rfl (by omega) ?_) | (refine isCall ?_; refine s_lenR sl_rows rfl (by assumption) ?_) | (refine isPick ?_; refine s_pickf rfl rfl ?_)) | (refine isC ?_; first | refine c_sr ?_ | refine c_seq ?_ | refine c_ift rfl ?_ | refine c_ret ?_) | (first | refine l_th ?_ | refine th_ret ?_))
        exact ret1 rfl rfl ⟨vbool (by simp [chkG, h3]), Ex.refl _⟩
    · repeat (first | (refine isO ?_; first | refine s_move ?_ | refine s_assign ?_ | (refine isG ?_; first | refine g_yes rfl rfl ?_ | refine g_no rfl rfl rfl ?_) | (refine isBin ?_; first | refine s_lssF rfl rfl (by omega) ?_ | refine s_gtrT rfl rfl (by omega) ?_) | (refine isPick ?_; first | refine s_pickt rfl rfl ?_ | refine s_pickf rfl rfl ?_)) | (refine isC ?_; first | refine c_sr ?_ | refine c_seq ?_ | refine c_ift rfl ?_ | refine c_ret ?_) | (first | refine l_th ?_ | refine th_ret ?_))
      exact ret1 rfl rfl ⟨vbool (by simp [chkG, h2]), Ex.refl _⟩
  · repeat (first | (refine isO ?_; first | refine s_move ?_ | refine s_assign ?_ | (refine isG ?_; refine g_no rfl rfl rfl ?_) | (refine isBin ?_; refine s_lssT rfl rfl (by omega) ?_) | (refine isPick ?_; refine s_pickt rfl rfl ?_)) | (refine isC ?_; first | refine c_sr ?_ | refine c_seq ?_ | refine c_ift rfl ?_ | refine c_ret ?_) | (first | refine l_th ?_ | refine th_ret ?_))
    exact ret1 rfl rfl ⟨vbool (by simp [chkG, h1]), Ex.refl _⟩
end Go.Proofs.YtifbgpkjbciblaaGreatDoor.Sal
/- The document's answer on halls (salesroomref09): less, Few. -/
set_option maxRecDepth 100000
namespace Go.Proofs.YtifbgpkjbciblaaGreatDoor.Sal
open Go.RowKit
attribute [local irreducible] Go.Code.wpIn Go.wpListIn Ct Ints Rows Sl At Rw WJ
set_option linter.all false
theorem ok_less9 : CallOK Tryz.prog 78 := callOK Tryz.func78 (by kernel_rfl) rfl
theorem ok_Few9 : CallOK Tryz.prog 20 := callOK Tryz.func20 (by kernel_rfl) rfl
theorem less9_ct (u v : Value) (a b : List Int) (w : World) (ha : Ints w u a) (hb : Ints w v b) (hl : a.length = b.length) :
    Ct Tryz.prog 78 #[u, v] w fun x w' => x = .bool (lexB a b) ∧ Ex w w' := by
  have hlen := ha.len
  refine enter (N := 30) (vs := [u, v]) Tryz.func78 rfl rfl rfl ?_
  repeat (first | (refine isO ?_; refine s_assign ?_) | (refine isC ?_; first | refine c_sr ?_ | refine c_seq ?_ | refine c_block ?_) | (refine l_th ?_))
  refine c_loop (γ := Nat) 1073741808 (fun i => [(5, .int .i64 (i : Int))]) (fun i W => i ≤ a.length ∧ lexB (a.drop i) (b.drop i) = lexB a b ∧ Ex w W) (fun i => a.length - i) 0 ⟨rfl, trivial⟩ ⟨Nat.zero_le _, rfl, Ex.refl _⟩ ?_
  rintro i ρ W ⟨hi, hlx, hx⟩
  have haW := ha.ex hx
  have hbW := hb.ex hx
  repeat (first | (refine isO ?_; first | refine s_move ?_ | (refine isBin ?_; refine s_lss rfl rfl ?_) | (refine isCall ?_; refine s_lenI sl_ints rfl (by assumption) ?_)) | (refine isC ?_; first | refine c_sr ?_ | refine c_seq ?_) | (refine l_th ?_))
  refine c_ifd rfl (fun h => ?_) (fun h => ?_)
  · have hi' : i < a.length := by omega
    have hib : i < b.length := by omega
    have hst := lex_drop hi' hib
    have hxd := hx.trans (Ex.drew W)
    repeat ((refine isC ?_; first | refine c_th ?_ | refine c_seq ?_ | refine c_block ?_))
    refine c_drawO hx 9 8 [(0, true), (1, true), (2, true), (3, true), (4, true), (5, true), (6, true), (7, true), (8, true)] mixed (by kernel_rfl) ?_
    refine d_move rfl ?_
    refine d_move rfl ?_
    refine d_iaI (n := i) rfl sl_ints ty_int rfl rfl ha hi' ?_
    intro ad1 hc1
    refine d_ld rfl ty_int rfl hc1 ?_
    refine d_move rfl ?_
    refine d_move rfl ?_
    refine d_iaI (n := i) rfl sl_ints ty_int rfl rfl hb hib ?_
    intro ad2 hc2
    refine d_ld rfl ty_int rfl hc2 ?_
    refine d_neq rfl rfl rfl ?_
    by_cases he : a.getD i 0 = b.getD i 0
    · rw [if_pos he] at hst
      refine d_re (v' := .bool false) (vbool (decide_eq_false (fun hne => hne he))) ?_
      refine d_nil ?_
      repeat (first | (refine isO ?_; first | refine s_move ?_ | refine s_assign ?_ | (refine isBin ?_; refine s_inc rfl (by omega) ?_)) | (refine isC ?_; first | refine c_region ?_ | refine c_iff rfl ?_ | refine c_skip ?_) | (refine l_th ?_))
      exact loop_end (i + 1) (by (repeat (first | exact agree_refl _ _ | refine agree_upd rfl ?_ | refine agree_ext rfl ?_ | refine agree_mask rfl ?_))) ⟨rfl, trivial⟩ ⟨hi', by rw [← hst]; exact hlx, hxd⟩ (by omega)
    · rw [if_neg he] at hst
      refine d_re (v' := .bool true) (vbool (decide_eq_true he)) ?_
      refine d_nil ?_
      repeat ((refine isC ?_; first | refine c_seq ?_ | refine c_ift rfl ?_))
      refine c_drawO hxd 10 8 [(0, true), (1, true), (2, true), (3, true), (4, true), (5, true), (6, true), (7, true), (8, true), (9, true)] mixed (by kernel_rfl) ?_
      have hxdd := hxd.trans (Ex.drew W.drew)
      refine d_move rfl ?_
      refine d_move rfl ?_
      refine d_iaI (n := i) rfl sl_ints ty_int rfl rfl ha hi' ?_
      intro ad3 hc3
      refine d_ld rfl ty_int rfl hc3 ?_
      refine d_move rfl ?_
      refine d_move rfl ?_
      refine d_iaI (n := i) rfl sl_ints ty_int rfl rfl hb hib ?_
      intro ad4 hc4
      refine d_ld rfl ty_int rfl hc4 ?_
      refine d_lss rfl rfl rfl ?_
      refine d_assign rfl ?_
      refine d_nil ?_
      repeat (first | (refine isC ?_; refine c_ret ?_) | (first | refine th_ret ?_ | refine ib_ret ?_))
      exact ret1 rfl rfl ⟨vbool (by rw [← hlx, hst]), hxdd⟩
  · have e1 : a.drop i = [] := List.drop_of_length_le (by omega)
    rw [e1] at hlx
    repeat (first | (refine isO ?_; refine s_assign ?_) | (refine isC ?_; first | refine c_sr ?_ | refine c_ret ?_ | refine c_exit ?_) | (refine l_th ?_))
    exact ret1 rfl rfl ⟨vbool (by rw [← hlx]; rfl), hx⟩
theorem Few9_bad (gv : Value) (g : List (List Int)) (n : Int) (sv' : Value) (sl : List Int) (w : World) (hg : Rows w gv g) (hs : Ints w sv' sl) (hb : (chkG g n && risB (-1) sl (g.length : Int)) = false) :
    Ct Tryz.prog 20 #[gv, .int .i64 n, sv'] w fun u w' => u = .tuple #[.slice none 0 0, .bool false, .int .i64 1] ∧ Ex w w' := by
  refine enter (N := 113) (vs := [gv, .int .i64 n, sv']) Tryz.func20 rfl rfl rfl ?_
  repeat (first | (refine isO ?_; first | refine s_move ?_ | refine s_assign ?_) | (refine isC ?_; first | refine c_sr ?_ | refine c_seq ?_) | (refine l_th ?_))
  refine s_call ok_Check6 rfl (Check6_ct gv g n w hg) ?_
  rintro v w1 ⟨rfl, hx1⟩
  refine Or.elim (tf6 (chkG g n)) (fun hc => ?_) (fun hc => ?_)
  · rw [hc, Bool.true_and] at hb
    have hg1 := hg.ex hx1
    refine s_re (v' := .bool true) (vbool hc) ?_
    repeat ((refine isO ?_; first | refine s_move ?_ | (refine isG ?_; refine g_yes rfl rfl ?_) | (refine isCall ?_; refine s_lenR sl_rows rfl (by assumption) ?_) | refine s_not rfl ?_))
    refine s_call ok_Rises6 rfl (Rises6_ct sv' sl (g.length : Int) w1 (hs.ex hx1)) ?_
    rintro v w2 ⟨rfl, hx2⟩
    refine s_re (v' := .bool false) (vbool hb) ?_
    repeat (first | (refine isO ?_; first | refine s_assign ?_ | (refine isG ?_; refine g_yes rfl rfl ?_) | (refine isPick ?_; refine s_pickf rfl rfl ?_) | refine s_not rfl ?_) | (refine isC ?_; first | refine c_sr ?_ | refine c_ift rfl ?_ | refine c_ret ?_) | (first | refine l_th ?_ | refine th_ret ?_))
    exact ret3 rfl rfl rfl rfl ⟨rfl, hx1.trans hx2⟩
  · refine s_re (v' := .bool false) (vbool hc) ?_
    repeat (first | (refine isO ?_; first | refine s_move ?_ | refine s_assign ?_ | (refine isG ?_; refine g_no rfl rfl rfl ?_) | (refine isPick ?_; refine s_pickt rfl rfl ?_) | refine s_not rfl ?_) | (refine isC ?_; first | refine c_sr ?_ | refine c_ift rfl ?_ | refine c_ret ?_) | (first | refine l_th ?_ | refine th_ret ?_))
    exact ret3 rfl rfl rfl rfl ⟨rfl, hx1⟩
theorem opt9 {α : Type} (o : Option α) : o = none ∨ ∃ b, o = some b := by cases o <;> simp
theorem pow8' {k : Nat} (h : k ≤ 8) : 1 * 2 ^ k ≤ 256 := by
  have : 2 ^ k ≤ 2 ^ 8 := Nat.pow_le_pow_right (by omega) h
  omega
set_option maxHeartbeats 8000000 in
theorem Few9_ok {R : Nat → Nat → Bool} {m n : Nat} (hm : m ≤ 8) (hn : n ≤ 8) (gv : Value) (sv' : Value) (sl : List Int) (w : World) (hg : Rows w gv (gL R m n)) (hs : Ints w sv' sl) (hb : risB (-1) sl (m : Int) = true) :
    Ct Tryz.prog 20 #[gv, .int .i64 (n : Int), sv'] w fun u w' => ∃ v, u = .tuple #[v, .bool (fewR R m n sl).isSome, .int .i64 0] ∧ Ints w' v ((fewR R m n sl).getD []) ∧ Ex w w' := by
  have hgl := gL_len R m n
  have hsl := ris_len hb
  have hchk := chk_ok (R := R) hm hn
  have hp8 := pow8' hn
  refine enter (N := 113) (vs := [gv, .int .i64 (n : Int), sv']) Tryz.func20 rfl rfl rfl ?_
  repeat (first | (refine isO ?_; first | refine s_move ?_ | refine s_assign ?_) | (refine isC ?_; first | refine c_sr ?_ | refine c_seq ?_) | (refine l_th ?_))
  refine s_call ok_Check6 rfl (Check6_ct gv (gL R m n) n w hg) ?_
  rintro v w1 ⟨rfl, hx1⟩
  have hg1 := hg.ex hx1
  refine s_re (v' := .bool true) (vbool hchk) ?_
  repeat ((refine isO ?_; first | refine s_move ?_ | (refine isG ?_; refine g_yes rfl rfl ?_) | (refine isCall ?_; refine s_lenR sl_rows rfl (by assumption) ?_) | refine s_not rfl ?_))
  refine s_call ok_Rises6 rfl (Rises6_ct sv' sl ((gL R m n).length : Int) w1 (hs.ex hx1)) ?_
  rintro v w2 ⟨rfl, hx2⟩
  have hx02 := hx1.trans hx2
  refine s_re (v' := .bool true) (vbool (by rw [hgl]; exact hb)) ?_
  repeat (first | (refine isO ?_; first | refine s_assign ?_ | (refine isG ?_; refine g_yes rfl rfl ?_) | (refine isPick ?_; refine s_pickf rfl rfl ?_) | refine s_not rfl ?_) | (refine isC ?_; first | refine c_sr ?_ | refine c_th ?_ | refine c_seq ?_ | refine c_iff rfl ?_ | refine c_block ?_) | (refine l_th ?_))
  refine c_loop3 2596148429267413814265247091392000 (fun (x : Nat) (v9 : Value) (o : Option (List Int)) => [(11, .int .i64 (x : Int)), (9, v9), (10, .bool o.isSome)]) (fun x v9 o W => x ≤ 2 ^ n ∧ Best9 R n sl x o ∧ Ints W v9 (o.getD []) ∧ Ex w W) (fun x _ _ => 2 ^ n - x) 0 (.slice none 0 0) none ⟨rfl, rfl, rfl, trivial⟩ ⟨Nat.zero_le _, Best9.zero, Ints.nil _, hx02⟩ ?_
  rintro x v9 o ρ W ⟨hx8, hB, hI9, hxW⟩
  have hsW := hs.ex hxW
  repeat (first | (refine isO ?_; refine s_move ?_) | (refine isC ?_; first | refine c_sr ?_ | refine c_seq ?_))
  refine s_conv (n := n) (by kernel_rfl) Tryz.underlying69 rfl (by simp [top]; omega) ?_
  refine s_shl (m := 1) (n := n) rfl rfl (by simp [IntKind.bits]; omega) (by simp only [top]; omega) ?_
  repeat (first | (refine isO ?_; (refine isBin ?_; refine s_lss rfl rfl ?_)) | (refine l_th ?_))
  refine c_ifd rfl (fun h => ?_) (fun h => ?_)
  · have hx' : x < 2 ^ n := by omega
    repeat (first | (refine isO ?_; refine s_assign ?_) | (refine isC ?_; first | refine c_sr ?_ | refine c_th ?_ | refine c_seq ?_ | refine c_block ?_) | (refine l_th ?_))
    refine c_loop2 4503462188429312 (fun (k : Nat) (v12 : Value) => [(13, .int .i64 (k : Int)), (12, v12)]) (fun k v12 W' => k ≤ n ∧ LI W W' 3 v12 (rowL k (fun i => x.testBit i)) ∧ Ex W W') (fun k _ => n - k) 0 (.slice none 0 0) ⟨rfl, rfl, trivial⟩ ⟨Nat.zero_le _, LI.nil _ _ _, Ex.refl _⟩ ?_
    rintro k v12 ρ2 W2 ⟨hk, hL, hxW2⟩
    have hrl := rowL_len k (fun i => x.testBit i)
    have hrn := rowN_le k (fun i => x.testBit i)
    repeat (first | (refine isO ?_; first | refine s_move ?_ | (refine isBin ?_; refine s_lss rfl rfl ?_)) | (refine isC ?_; first | refine c_sr ?_ | refine c_seq ?_) | (refine l_th ?_))
    refine c_ifd rfl (fun h2 => ?_) (fun h2 => ?_)
    · have hk' : k < n := by omega
      have hst := rowL_step k (fun i => x.testBit i)
      have hba := bit_asked x k
      repeat (first | (refine isO ?_; refine s_move ?_) | (refine isC ?_; first | refine c_sr ?_ | refine c_th ?_ | refine c_seq ?_ | refine c_block ?_))
      refine s_conv (n := k) (by kernel_rfl) Tryz.underlying69 rfl (by simp [top]; omega) ?_
      refine s_shr (m := x) (n := k) rfl rfl (by simp [IntKind.bits]; omega) ?_
      refine s_and (m := x / 2 ^ k) (n := 1) rfl rfl (Nat.le_trans (Nat.div_le_self _ _) (by simp only [top]; omega)) (by simp [top]) ?_
      refine Or.elim (tf6 (x.testBit k)) (fun hbt => ?_) (fun hbt => ?_)
      · rw [hbt, if_pos rfl] at hst
        refine s_eqlT rfl rfl (hba.2 hbt) ?_
        repeat (first | (refine isO ?_; refine s_move ?_) | (refine isC ?_; first | refine c_region ?_ | refine c_ift rfl ?_) | (refine l_th ?_))
        refine s_li sl_ints in_int rfl hL rfl rfl (fun _ => rfl) (by omega) hxW2 ?_
        intro v' w4 sl' hL4 hx4
        rw [← hst] at hL4
        repeat (first | (refine isO ?_; first | refine s_move ?_ | refine s_assign ?_ | (refine isBin ?_; refine s_inc rfl (by omega) ?_)) | (refine isC ?_; refine c_region ?_) | (first | refine l_th ?_ | refine l_nil ?_))
        exact loop_end2 (k + 1) v' (by (repeat (first | exact agree_refl _ _ | refine agree_upd rfl ?_ | refine agree_ext rfl ?_ | refine agree_mask rfl ?_))) ⟨rfl, rfl, trivial⟩ ⟨hk', hL4, hx4⟩ (by omega)
      · rw [hbt, if_neg Bool.false_ne_true, List.append_nil] at hst
        refine s_eqlF rfl rfl (fun e => by have := hba.1 e; rw [hbt] at this; cases this) ?_
        repeat (first | (refine isO ?_; first | refine s_move ?_ | refine s_assign ?_ | (refine isBin ?_; refine s_inc rfl (by omega) ?_)) | (refine isC ?_; first | refine c_region ?_ | refine c_iff rfl ?_ | refine c_skip ?_) | (refine l_th ?_))
        exact loop_end2 (k + 1) v12 (by (repeat (first | exact agree_refl _ _ | refine agree_upd rfl ?_ | refine agree_ext rfl ?_ | refine agree_mask rfl ?_))) ⟨rfl, rfl, trivial⟩ ⟨hk', by rw [hst]; exact hL, hxW2⟩ (by omega)
    · have hkn : k = n := by omega
      subst hkn
      have hIL : Ints W2 v12 (setN9 k x) := hL.ints (by omega)
      have hx2 := hxW.trans hxW2
      repeat (first | (refine isO ?_; refine s_assign ?_) | (refine isC ?_; first | refine c_sr ?_ | refine c_seq ?_ | refine c_block ?_ | refine c_exit ?_) | (refine l_th ?_))
      refine c_loop (γ := Nat) 9671406552413433770786816 (fun i => [(15, .int .i64 (i : Int)), (14, .int .i64 ((withK R k sl (setN9 k x) i : Nat) : Int))]) (fun i W' => i ≤ sl.length ∧ Ex W2 W') (fun i => sl.length - i) 0 ⟨rfl, rfl, trivial⟩ ⟨Nat.zero_le _, Ex.refl _⟩ ?_
      rintro i ρ3 W3 ⟨hi, hx23⟩
      have hx3 := hx2.trans hx23
      have hs3 := hs.ex hx3
      have hwk := withK_le R k sl (setN9 k x) i
      repeat (first | (refine isO ?_; first | refine s_move ?_ | (refine isBin ?_; refine s_lss rfl rfl ?_) | (refine isCall ?_; refine s_lenI sl_ints rfl (by assumption) ?_)) | (refine isC ?_; first | refine c_sr ?_ | refine c_seq ?_) | (refine l_th ?_))
      refine c_ifd rfl (fun h3 => ?_) (fun h3 => ?_)
      · have hi' : i < sl.length := by omega
        refine Exists.elim (ris_at hb hi') fun p hp => ?_
        have hp1 := hp.1
        have hp2 := hp.2
        have hws := withK_succ (R := R) (nn := k) (l := setN9 k x) hi' hp1
        have hg3 := hg.ex hx3
        repeat (first | (refine isO ?_; first | refine s_move ?_ | (refine isIA ?_; refine s_ixI sl_ints ty_int rfl rfl rfl (by assumption) (by omega) ?_; intro _)) | (refine isC ?_; first | refine c_sr ?_ | refine c_th ?_ | refine c_seq ?_ | refine c_block ?_))
        refine s_ixR sl_rows ty_ints rfl rfl (vint hp1) hg3 (by omega) ?_
        intro _ row hr
        rw [gL_row hp2] at hr
        have hrl3 := rowL_len k (R p)
        have hrn3 := rowN_le k (R p)
        repeat (first | (refine isO ?_; refine s_assign ?_) | (refine isC ?_; first | refine c_sr ?_ | refine c_seq ?_ | refine c_block ?_) | (refine l_th ?_))
        refine c_loop (γ := Nat) 1208888926126481755996160 (fun j => [(18, .int .i64 (j : Int)), (17, .bool (wJ R k (setN9 k x) p j))]) (fun j W' => j ≤ (rowL k (R p)).length ∧ Ex W3 W') (fun j => (rowL k (R p)).length - j) 0 ⟨rfl, rfl, trivial⟩ ⟨Nat.zero_le _, Ex.refl _⟩ ?_
        rintro j ρ4 W4 ⟨hj, hx34⟩
        have hr4 := hr.ex hx34
        repeat (first | (refine isO ?_; first | refine s_move ?_ | (refine isBin ?_; refine s_lss rfl rfl ?_) | (refine isCall ?_; refine s_lenI sl_ints rfl (by assumption) ?_)) | (refine isC ?_; first | refine c_sr ?_ | refine c_seq ?_) | (refine l_th ?_))
        refine c_ifd rfl (fun h4 => ?_) (fun h4 => ?_)
        · have hj' : j < (rowL k (R p)).length := by omega
          have hwj := wJ_succ (R := R) (nn := k) (l := setN9 k x) (p := p) hj'
          repeat (first | (refine isO ?_; refine s_move ?_) | (refine isC ?_; first | refine c_th ?_ | refine c_seq ?_ | refine c_region ?_ | refine c_block ?_))
          refine Or.elim (tf6 (wJ R k (setN9 k x) p j)) (fun hbt => ?_) (fun hbt => ?_)
          · refine s_re (v' := .bool true) (vbool hbt) ?_
            rw [hbt, Bool.true_and] at hwj
            repeat (first | (refine isO ?_; first | refine s_move ?_ | (refine isG ?_; refine g_yes rfl rfl ?_)) | (refine isO ?_; first | (refine s_iaI sl_ints ty_int rfl rfl (by assumption) (by omega) ?_; intro _ _) | refine s_ld ty_int rfl (by assumption) ?_))
            refine s_call ok_Has6 rfl (Has6_ct v12 (setN9 k x) ((rowL k (R p)).getD j 0) W4 (hIL.ex (hx23.trans hx34))) ?_
            rintro u W5 ⟨rfl, hx5⟩
            repeat (first | (refine isO ?_; first | refine s_move ?_ | refine s_assign ?_ | (refine isBin ?_; refine s_inc rfl (by omega) ?_) | (refine isPick ?_; refine s_pickt rfl rfl ?_)) | (refine isC ?_; refine c_region ?_) | (first | refine l_th ?_ | refine l_nil ?_))
            exact loop_end (j + 1) (by (repeat (first | exact agree_refl _ _ | refine agree_upd rfl ?_ | refine agree_ext rfl ?_ | refine agree_mask rfl ?_))) ⟨rfl, vbool hwj.symm, trivial⟩ ⟨hj', hx34.trans hx5⟩ (by omega)
          · refine s_re (v' := .bool false) (vbool hbt) ?_
            rw [hbt, Bool.false_and] at hwj
            repeat (first | (refine isO ?_; first | refine s_move ?_ | refine s_assign ?_ | (refine isG ?_; refine g_no rfl rfl rfl ?_) | (refine isBin ?_; refine s_inc rfl (by omega) ?_) | (refine isPick ?_; refine s_pickf rfl rfl ?_)) | (refine isC ?_; refine c_region ?_) | (first | refine l_th ?_ | refine l_nil ?_))
            exact loop_end (j + 1) (by (repeat (first | exact agree_refl _ _ | refine agree_upd rfl ?_ | refine agree_ext rfl ?_ | refine agree_mask rfl ?_))) ⟨rfl, vbool hwj.symm, trivial⟩ ⟨hj', hx34⟩ (by omega)
        · have hwa := wJ_all (R := R) (nn := k) (l := setN9 k x) (p := p) (j := j) (by omega)
          repeat (first | (refine isO ?_; refine s_move ?_) | (refine isC ?_; first | refine c_sr ?_ | refine c_exit ?_) | (refine l_th ?_))
          refine c_if rfl (fun hbt => ?_) (fun hbt => ?_)
          · rw [if_pos (hwa.symm.trans hbt)] at hws
            repeat (first | (refine isO ?_; first | refine s_move ?_ | refine s_assign ?_ | (refine isBin ?_; refine s_inc rfl (by omega) ?_)) | (refine isC ?_; refine c_region ?_) | (first | refine l_th ?_ | refine l_nil ?_))
            exact loop_end (i + 1) (by (repeat (first | exact agree_refl _ _ | refine agree_upd rfl ?_ | refine agree_ext rfl ?_ | refine agree_mask rfl ?_))) ⟨rfl, vint (by rw [hws]), trivial⟩ ⟨hi', hx23.trans hx34⟩ (by omega)
          · rw [if_neg (fun e => by rw [← hwa, hbt] at e; cases e)] at hws
            repeat (first | (refine isO ?_; first | refine s_move ?_ | refine s_assign ?_ | (refine isBin ?_; refine s_inc rfl (by omega) ?_)) | (refine isC ?_; first | refine c_region ?_ | refine c_skip ?_) | (refine l_th ?_))
            exact loop_end (i + 1) (by (repeat (first | exact agree_refl _ _ | refine agree_upd rfl ?_ | refine agree_ext rfl ?_ | refine agree_mask rfl ?_))) ⟨rfl, vint (by rw [hws]; rfl), trivial⟩ ⟨hi', hx23.trans hx34⟩ (by omega)
      · have hwn := withK_all R k sl (setN9 k x) (j := i) (by omega)
        have hI93 := hI9.ex (hxW2.trans hx23)
        have hIL3 := hIL.ex hx23
        have hsn := setN9_len k x
        by_cases hfew : (setN9 k x).length < withK R k sl (setN9 k x) i
        · have hfb : fewB R k sl (setN9 k x) = true := decide_eq_true (by omega)
          refine Or.elim (opt9 o) (fun ho => ?_) (fun ho => ?_)
          · have hB1 : Best9 R k sl (x + 1) (some (setN9 k x)) := by rw [ho] at hB; exact hB.first hfb
            repeat (first | (refine isO ?_; first | refine s_move ?_ | (refine isG ?_; refine g_yes rfl rfl ?_) | (refine isBin ?_; refine s_gtrT rfl rfl (by omega) ?_) | (refine isCall ?_; refine s_lenI sl_ints rfl (by assumption) ?_) | refine s_not rfl ?_) | (refine isC ?_; first | refine c_sr ?_ | refine c_exit ?_))
            refine s_re (v' := .bool true) (vbool (by rw [ho]; rfl)) ?_
            repeat (first | (refine isO ?_; first | refine s_move ?_ | refine s_assign ?_ | (refine isG ?_; first | refine g_yes rfl rfl ?_ | refine g_no rfl rfl rfl ?_ | refine g_un rfl rfl ?_) | (refine isBin ?_; refine s_inc rfl (by omega) ?_) | (refine isPick ?_; refine s_pickt rfl rfl ?_)) | (refine isC ?_; first | refine c_sr ?_ | refine c_region ?_ | refine c_ift rfl ?_) | (first | refine l_th ?_ | refine l_nil ?_))
            exact loop_end3 (x + 1) v12 (some (setN9 k x)) (by (repeat (first | exact agree_refl _ _ | refine agree_upd rfl ?_ | refine agree_ext rfl ?_ | refine agree_mask rfl ?_))) ⟨rfl, rfl, rfl, trivial⟩ ⟨hx', hB1, hIL3, hx3⟩ (by omega)
          · refine Exists.elim ho fun b ho => ?_
            have hob : o.getD [] = b := by rw [ho]; rfl
            have hgo : ∀ hl : lt9 (setN9 k x) (o.getD []), Best9 R k sl (x + 1) (some (setN9 k x)) := fun hl => by rw [hob] at hl; rw [ho] at hB; exact hB.more hfb hl
            have hst : ∀ hl : ¬ lt9 (setN9 k x) (o.getD []), Best9 R k sl (x + 1) o := fun hl => by rw [hob] at hl; rw [ho] at hB ⊢; exact hB.keep hl
            by_cases hlt : (setN9 k x).length < (o.getD []).length
            · have hB1 := hgo (.inl hlt)
              repeat (first | (refine isO ?_; first | refine s_move ?_ | (refine isG ?_; refine g_yes rfl rfl ?_) | (refine isBin ?_; refine s_gtrT rfl rfl (by omega) ?_) | (refine isCall ?_; refine s_lenI sl_ints rfl (by assumption) ?_) | refine s_not rfl ?_) | (refine isC ?_; first | refine c_sr ?_ | refine c_exit ?_))
              refine s_re (v' := .bool false) (vbool (by rw [ho]; rfl)) ?_
              repeat (first | (refine isO ?_; first | refine s_move ?_ | refine s_assign ?_ | (refine isG ?_; first | refine g_yes rfl rfl ?_ | refine g_no rfl rfl rfl ?_ | refine g_un rfl rfl ?_) | (refine isBin ?_; first | refine s_inc rfl (by omega) ?_ | refine s_lssT rfl rfl (by omega) ?_) | (refine isCall ?_; refine s_lenI sl_ints rfl (by assumption) ?_) | (refine isPick ?_; first | refine s_pickt rfl rfl ?_ | refine s_pickf rfl rfl ?_)) | (refine isC ?_; first | refine c_sr ?_ | refine c_region ?_ | refine c_ift rfl ?_) | (first | refine l_th ?_ | refine l_nil ?_))
              exact loop_end3 (x + 1) v12 (some (setN9 k x)) (by (repeat (first | exact agree_refl _ _ | refine agree_upd rfl ?_ | refine agree_ext rfl ?_ | refine agree_mask rfl ?_))) ⟨rfl, rfl, rfl, trivial⟩ ⟨hx', hB1, hIL3, hx3⟩ (by omega)
            · by_cases heq : (setN9 k x).length = (o.getD []).length
              · repeat (first | (refine isO ?_; first | refine s_move ?_ | (refine isG ?_; refine g_yes rfl rfl ?_) | (refine isBin ?_; refine s_gtrT rfl rfl (by omega) ?_) | (refine isCall ?_; refine s_lenI sl_ints rfl (by assumption) ?_) | refine s_not rfl ?_) | (refine isC ?_; first | refine c_sr ?_ | refine c_exit ?_))
                refine s_re (v' := .bool false) (vbool (by rw [ho]; rfl)) ?_
                repeat ((refine isO ?_; first | refine s_move ?_ | (refine isG ?_; refine g_yes rfl rfl ?_) | (refine isBin ?_; first | refine s_lssF rfl rfl (by omega) ?_ | refine s_eqlT rfl rfl (by omega) ?_) | (refine isCall ?_; refine s_lenI sl_ints rfl (by assumption) ?_) | (refine isPick ?_; refine s_pickf rfl rfl ?_)))
                refine s_call ok_less9 rfl (less9_ct v12 v9 _ _ W3 hIL3 hI93 heq) ?_
                rintro u W5 ⟨rfl, hx5⟩
                refine Or.elim (tf6 (lexB (setN9 k x) (o.getD []))) (fun hbt => ?_) (fun hbt => ?_)
                · have hB1 := hgo (.inr ⟨heq, hbt⟩)
                  refine s_re (v' := .bool true) (vbool hbt) ?_
                  repeat (first | (refine isO ?_; first | refine s_move ?_ | refine s_assign ?_ | (refine isG ?_; refine g_yes rfl rfl ?_) | (refine isBin ?_; refine s_inc rfl (by omega) ?_) | (refine isPick ?_; first | refine s_pickt rfl rfl ?_ | refine s_pickf rfl rfl ?_)) | (refine isC ?_; first | refine c_sr ?_ | refine c_region ?_ | refine c_ift rfl ?_) | (first | refine l_th ?_ | refine l_nil ?_))
                  exact loop_end3 (x + 1) v12 (some (setN9 k x)) (by (repeat (first | exact agree_refl _ _ | refine agree_upd rfl ?_ | refine agree_ext rfl ?_ | refine agree_mask rfl ?_))) ⟨rfl, rfl, rfl, trivial⟩ ⟨hx', hB1, hIL3.ex hx5, hx3.trans hx5⟩ (by omega)
                · have hB1 := hst (fun hl => by
                    rcases hl with hl | ⟨_, hl⟩
                    · exact hlt hl
                    · rw [hbt] at hl; cases hl)
                  refine s_re (v' := .bool false) (vbool hbt) ?_
                  repeat (first | (refine isO ?_; first | refine s_move ?_ | refine s_assign ?_ | (refine isG ?_; refine g_yes rfl rfl ?_) | (refine isBin ?_; refine s_inc rfl (by omega) ?_) | (refine isPick ?_; first | refine s_pickt rfl rfl ?_ | refine s_pickf rfl rfl ?_)) | (refine isC ?_; first | refine c_region ?_ | refine c_iff rfl ?_ | refine c_skip ?_) | (refine l_th ?_))
                  exact loop_end3 (x + 1) v9 o (by (repeat (first | exact agree_refl _ _ | refine agree_upd rfl ?_ | refine agree_ext rfl ?_ | refine agree_mask rfl ?_))) ⟨rfl, rfl, rfl, trivial⟩ ⟨hx', hB1, hI93.ex hx5, hx3.trans hx5⟩ (by omega)
              · have hB1 := hst (fun hl => by
                  rcases hl with hl | ⟨hl, _⟩
                  · exact hlt hl
                  · exact heq hl)
                repeat (first | (refine isO ?_; first | refine s_move ?_ | (refine isG ?_; refine g_yes rfl rfl ?_) | (refine isBin ?_; refine s_gtrT rfl rfl (by omega) ?_) | (refine isCall ?_; refine s_lenI sl_ints rfl (by assumption) ?_) | refine s_not rfl ?_) | (refine isC ?_; first | refine c_sr ?_ | refine c_exit ?_))
                refine s_re (v' := .bool false) (vbool (by rw [ho]; rfl)) ?_
                repeat (first | (refine isO ?_; first | refine s_move ?_ | refine s_assign ?_ | (refine isG ?_; first | refine g_yes rfl rfl ?_ | refine g_no rfl rfl rfl ?_) | (refine isBin ?_; first | refine s_inc rfl (by omega) ?_ | refine s_lssF rfl rfl (by omega) ?_ | refine s_eqlF rfl rfl (by omega) ?_) | (refine isCall ?_; refine s_lenI sl_ints rfl (by assumption) ?_) | (refine isPick ?_; first | refine s_pickt rfl rfl ?_ | refine s_pickf rfl rfl ?_)) | (refine isC ?_; first | refine c_region ?_ | refine c_iff rfl ?_ | refine c_skip ?_) | (refine l_th ?_))
                exact loop_end3 (x + 1) v9 o (by (repeat (first | exact agree_refl _ _ | refine agree_upd rfl ?_ | refine agree_ext rfl ?_ | refine agree_mask rfl ?_))) ⟨rfl, rfl, rfl, trivial⟩ ⟨hx', hB1, hI93, hx3⟩ (by omega)
        · have hfb : fewB R k sl (setN9 k x) = false := decide_eq_false (by omega)
          have hB1 := hB.no hfb
          repeat (first | (refine isO ?_; first | refine s_move ?_ | refine s_assign ?_ | (refine isG ?_; first | refine g_no rfl rfl rfl ?_ | refine g_un rfl rfl ?_) | (refine isBin ?_; first | refine s_inc rfl (by omega) ?_ | refine s_gtrF rfl rfl (by omega) ?_) | (refine isCall ?_; refine s_lenI sl_ints rfl (by assumption) ?_) | (refine isPick ?_; refine s_pickf rfl rfl ?_)) | (refine isC ?_; first | refine c_sr ?_ | refine c_region ?_ | refine c_iff rfl ?_ | refine c_exit ?_ | refine c_skip ?_) | (refine l_th ?_))
          exact loop_end3 (x + 1) v9 o (by (repeat (first | exact agree_refl _ _ | refine agree_upd rfl ?_ | refine agree_ext rfl ?_ | refine agree_mask rfl ?_))) ⟨rfl, rfl, rfl, trivial⟩ ⟨hx', hB1, hI93, hx3⟩ (by omega)
  · have hxe : x = 2 ^ n := by omega
    rw [hxe] at hB
    have hfr := best9_few (m := m) hn hb hB
    repeat (first | (refine isO ?_; first | refine s_move ?_ | refine s_assign ?_) | (refine isC ?_; first | refine c_sr ?_ | refine c_ret ?_ | refine c_exit ?_) | (refine l_th ?_))
    exact ret3 rfl rfl rfl rfl ⟨v9, congrArg (fun z : Bool => Value.tuple #[v9, .bool z, .int .i64 0]) (by rw [hfr]), by rw [hfr]; exact hI9, hxW⟩
end Go.Proofs.YtifbgpkjbciblaaGreatDoor.Sal
/- A graph that is checked is told by who may have what. -/
set_option maxRecDepth 100000
namespace Go.Proofs.YtifbgpkjbciblaaGreatDoor.Sal
set_option linter.all false
theorem chk_may {g : List (List Int)} {n : Int} (h : chkG g n = true) : n = (n.toNat : Int) ∧ n.toNat ≤ 8 ∧ g.length ≤ 8 ∧ g = gL (mayR g) g.length n.toNat := by
  obtain ⟨nn, h1, h2, h3, h4⟩ := chk_form h
  subst h1
  exact ⟨rfl, h2, h3, h4⟩
end Go.Proofs.YtifbgpkjbciblaaGreatDoor.Sal
/- Halls: the program's answer and the document's are one, whatever comes in. -/
set_option maxRecDepth 100000
namespace Go.Proofs.YtifbgpkjbciblaaGreatDoor.Sal
open Go.RowKit
set_option linter.all false
noncomputable def fewS (g : List (List Int)) (n : Int) (sl : List Int) : List Int × Bool × Int := if (chkG g n && risB (-1) sl (g.length : Int)) = true then ((fewR (mayR g) g.length n.toNat sl).getD [], (fewR (mayR g) g.length n.toNat sl).isSome, 0) else ([], false, 1)
theorem few_len {R : Nat → Nat → Bool} {m nn : Nat} {sl l : List Int} (hn : nn ≤ 8) (hs : risB (-1) sl (m : Int) = true) (h : fewR R m nn sl = some l) : l.length ≤ 8 := by
  rw [fewR_eq hn hs] at h
  have := ris_len (fewTo_first h).1
  omega
attribute [local irreducible] Go.Code.wpIn Go.wpListIn Ct Ints Rows Sl At Rw WJ
attribute [local irreducible] Wd
theorem Few_all (gv : Value) (g : List (List Int)) (n : Int) (sv' : Value) (sl : List Int) (w : World) (hg : Rows w gv g) (hs : Ints w sv' sl) :
    Ct Tryz.prog 19 #[gv, .int .i64 n, sv'] w fun u w' => ∃ v, u = .tuple #[v, .bool (fewS g n sl).2.1, .int .i64 (fewS g n sl).2.2] ∧ OwI w w' v (fewS g n sl).1 ∧ Ints w' v (fewS g n sl).1 ∧ (fewS g n sl).1.length ≤ 8 ∧ Ex w w' := by
  unfold fewS
  by_cases hc : (chkG g n && risB (-1) sl (g.length : Int)) = true
  · rw [if_pos hc]
    rw [Bool.and_eq_true] at hc
    obtain ⟨h1, h2, h3, h4⟩ := chk_may hc.1
    have hg' : Rows w gv (gL (mayR g) g.length n.toNat) := by rw [← h4]; exact hg
    have hct := Few_okW (R := mayR g) (m := g.length) (nn := n.toNat) h3 h2 gv sv' sl w hg' hs hc.2
    rw [← h1] at hct
    refine hct.mono fun u w' ⟨hx, hr⟩ => ?_
    rcases hr with ⟨h5, hu⟩ | ⟨l, v, h5, hu, hO, hI⟩
    · rw [h5]; exact ⟨_, hu, OwI.nil _ _, Ints.nil _, by simp, hx⟩
    · have := few_len h2 hc.2 h5
      rw [h5]; exact ⟨v, hu, hO, hI, this, hx⟩
  · rw [if_neg hc]
    have hc' : (chkG g n && risB (-1) sl (g.length : Int)) = false := by simpa using hc
    exact (Few_bad gv g n sv' sl w hg hs hc').mono fun u w' ⟨hu, hx⟩ => ⟨_, hu, OwI.nil _ _, Ints.nil _, by simp, hx⟩
theorem Few9_all (gv : Value) (g : List (List Int)) (n : Int) (sv' : Value) (sl : List Int) (w : World) (hg : Rows w gv g) (hs : Ints w sv' sl) :
    Ct Tryz.prog 20 #[gv, .int .i64 n, sv'] w fun u w' => ∃ v, u = .tuple #[v, .bool (fewS g n sl).2.1, .int .i64 (fewS g n sl).2.2] ∧ Ints w' v (fewS g n sl).1 ∧ Ex w w' := by
  unfold fewS
  by_cases hc : (chkG g n && risB (-1) sl (g.length : Int)) = true
  · rw [if_pos hc]
    rw [Bool.and_eq_true] at hc
    obtain ⟨h1, h2, h3, h4⟩ := chk_may hc.1
    have hg' : Rows w gv (gL (mayR g) g.length n.toNat) := by rw [← h4]; exact hg
    have hct := Few9_ok (R := mayR g) (m := g.length) (n := n.toNat) h3 h2 gv sv' sl w hg' hs hc.2
    rw [← h1] at hct
    exact hct
  · rw [if_neg hc]
    have hc' : (chkG g n && risB (-1) sl (g.length : Int)) = false := by simpa using hc
    exact (Few9_bad gv g n sv' sl w hg hs hc').mono fun u w' ⟨hu, hx⟩ => ⟨_, hu, Ints.nil _, hx⟩
end Go.Proofs.YtifbgpkjbciblaaGreatDoor.Sal
/- What a Book is told, one by one; that it finds all apart. -/
set_option maxRecDepth 100000
namespace Go.Proofs.YtifbgpkjbciblaaGreatDoor.Sal
open Go.RowKit
set_option linter.all false
def BkQ (lo : Nat) (wB w : World) (bk M top : Nat) : Prop :=
  ∃ (ns nl : List Nat) (L : Nat → Value) (ln : Nat → Nat) (vi vl : Value), Bk wB w bk M ns nl L vi vl ∧ (∀ q ∈ ns, ∃ xs, Wd wB 3 1 (L q) (ln q) xs) ∧ (∀ q ∈ nl, ∃ xs, Wd wB 25 1 (L q) (ln q) xs) ∧ ns.length ≤ M ∧ nl.length ≤ M ∧
    (∀ q, (q ∈ ns ∨ q ∈ nl) → q ≤ M ∧ ln q ≤ 100000 ∧ ∀ b, (L q).ownBlock = some b → lo ≤ b ∧ b < top) ∧ ns.Nodup ∧ nl.Nodup ∧ (∀ p ∈ ns, ∀ q ∈ nl, p ≠ q) ∧
    ∀ p q, (p ∈ ns ∨ p ∈ nl) → (q ∈ ns ∨ q ∈ nl) → p ≠ q → ∀ b, (L p).ownBlock = some b → (L q).ownBlock ≠ some b
theorem Bk.congr {wB w : World} {bk M : Nat} {ns nl : List Nat} {L L' : Nat → Value} {vi vl : Value} (h : Bk wB w bk M ns nl L vi vl) (he : ∀ q, (q ∈ ns ∨ q ∈ nl) → L q = L' q) : Bk wB w bk M ns nl L' vi vl := by
  refine ⟨h.ex, h.lo, h.hd, ?_, ?_, h.oi, h.ol⟩
  · have := h.wi
    rwa [flat3_congr ns (fun q hq => ⟨he q (.inl hq), rfl⟩)] at this
  · have := h.wl
    rwa [flat3_congr nl (fun q hq => ⟨he q (.inr hq), rfl⟩)] at this
theorem BkQ.init {lo : Nat} {wB w : World} {bk top : Nat} (hx : Ex wB w) (hl : wB.heap.size ≤ bk) (hA : At w bk 46 (bkc 0 nilV nilV)) : BkQ lo wB w bk 0 top :=
  ⟨[], [], fun _ => nilV, fun _ => 0, nilV, nilV, ⟨hx, hl, hA, Wd.nil _ _ _, Wd.nil _ _ _, fun b h => (by cases h), fun b h => (by cases h)⟩, fun q h => (by cases h), fun q h => (by cases h), Nat.le_refl _, Nat.le_refl _, fun q h => (by rcases h with h | h <;> cases h), List.nodup_nil, List.nodup_nil, fun p h => (by cases h), fun p q h => (by rcases h with h | h <;> cases h)⟩
theorem BkQ.exd {lo : Nat} {wB w w' : World} {bk M top : Nat} (h : BkQ lo wB w bk M top) (hx : Ex w w') : BkQ lo wB w' bk M top := by
  obtain ⟨ns, nl, L, ln, vi, vl, h1, h2⟩ := h
  exact ⟨ns, nl, L, ln, vi, vl, h1.exd hx, h2⟩
theorem mem_upN {M k q : Nat} : q ∈ upN M k ↔ ∃ j, j < k ∧ q = M + 1 + j := by
  unfold upN
  rw [List.mem_map]
  constructor
  · rintro ⟨j, h1, h2⟩; exact ⟨j, List.mem_range.1 h1, h2.symm⟩
  · rintro ⟨j, h1, h2⟩; exact ⟨j, List.mem_range.2 h1, h2.symm⟩
theorem upN_nodup (M k : Nat) : (upN M k).Nodup := by
  unfold upN
  refine List.pairwise_map.2 (List.pairwise_lt_range.imp fun h => ?_)
  omega
def setL (L : Nat → Value) (M : Nat) (us : List Value) (v : Value) (q : Nat) : Value := if M < q ∧ q ≤ M + us.length then us.getD (q - M - 1) v else if q = M + us.length + 1 then v else L q
def setN (ln : Nat → Nat) (M k : Nat) (f : Nat → Nat) (n : Nat) (q : Nat) : Nat := if M < q ∧ q ≤ M + k then f (q - M - 1) else if q = M + k + 1 then n else ln q
theorem setL_row {L : Nat → Value} {M : Nat} {us : List Value} {v : Value} {j : Nat} {u : Value} (h : us[j]? = some u) : setL L M us v (M + 1 + j) = u := by
  have hj := (List.getElem?_eq_some_iff.1 h).1
  unfold setL
  rw [if_pos ⟨by omega, by omega⟩]
  have e : M + 1 + j - M - 1 = j := by omega
  rw [e, List.getD_eq_getElem?_getD, h]; rfl
theorem setL_out (L : Nat → Value) (M : Nat) (us : List Value) (v : Value) : setL L M us v (M + us.length + 1) = v := by
  unfold setL
  rw [if_neg (by omega), if_pos rfl]
theorem setL_old {L : Nat → Value} {M : Nat} {us : List Value} {v : Value} {q : Nat} (h : q ≤ M) : setL L M us v q = L q := by
  unfold setL
  rw [if_neg (by omega), if_neg (by omega)]
theorem setN_row (ln : Nat → Nat) (M : Nat) {k j : Nat} (f : Nat → Nat) (n : Nat) (h : j < k) : setN ln M k f n (M + 1 + j) = f j := by
  unfold setN
  rw [if_pos ⟨by omega, by omega⟩]
  congr 1; omega
theorem setN_out (ln : Nat → Nat) (M k : Nat) (f : Nat → Nat) (n : Nat) : setN ln M k f n (M + k + 1) = n := by
  unfold setN
  rw [if_neg (by omega), if_pos rfl]
theorem setN_old {ln : Nat → Nat} {M k : Nat} {f : Nat → Nat} {n q : Nat} (h : q ≤ M) : setN ln M k f n q = ln q := by
  unfold setN
  rw [if_neg (by omega), if_neg (by omega)]
attribute [local irreducible] Go.Code.wpIn Go.wpListIn Ct Ints Rows Sl At Rw WJ
attribute [local irreducible] Wd
theorem bqIntLists_ct (lo : Nat) (wk wB w : World) (bk M top top' : Nat) (v : Value) (us : List Value) (A : List (List Int)) (h : BkQ lo wB w bk M top) (hv : OwL wk wB v us A) (ht : top ≤ wk.heap.size) (hlo : lo ≤ wk.heap.size) (htt : top ≤ top') (hr : ∀ (j : Nat) u b, us[j]? = some u → Value.ownBlock u = some b → b < top') (hvt : ∀ b, v.ownBlock = some b → b < top') (hA : A.length ≤ 20000) (hA2 : ∀ j, (A.getD j []).length ≤ 100000) (hM : M ≤ 20000) :
    Ct Tryz.prog 16 #[.pointer (some ⟨bk, 0, none⟩), v] w fun u w' => u = .tuple #[] ∧ BkQ lo wB w' bk (M + us.length + 1) top' := by
  obtain ⟨ns, nl, L, ln, vi, vl, hB, h1, h2, h3, h4, h5, h6, h7, h8, h9⟩ := h
  have hlen := hv.len
  have hB' : Bk wB w bk M ns nl (setL L M us v) vi vl := hB.congr fun q hq => (setL_old (h5 q hq).1).symm
  have hsl : Sl wB v us := hv.out.sl (by omega)
  refine (bIntLists_ct wB bk M ns nl (setL L M us v) vi vl us v w hB' hsl (fun j u hu => ⟨(hv.row j u hu).2, setL_row hu⟩) (setL_out L M us v) (by omega) (by omega) (by omega)).mono fun u w' ⟨hu, vi', vl', hB2⟩ => ?_
  have new : ∀ q, (q ∈ upN M us.length) → ∃ j x, j < us.length ∧ us[j]? = some x ∧ q = M + 1 + j ∧ setL L M us v q = x := fun q hq => by
    obtain ⟨j, hj, rfl⟩ := mem_upN.1 hq
    have hj2 : us[j]? = some us[j] := List.getElem?_eq_getElem hj
    exact ⟨j, us[j], hj, hj2, rfl, setL_row hj2⟩
  have cls : ∀ q, (q ∈ ns ++ upN M us.length ∨ q ∈ nl ++ [M + us.length + 1]) → ((q ∈ ns ∨ q ∈ nl) ∧ setL L M us v q = L q) ∨ (∃ j x, j < us.length ∧ us[j]? = some x ∧ q = M + 1 + j ∧ setL L M us v q = x) ∨ (q = M + us.length + 1 ∧ setL L M us v q = v) := fun q hq => by
    simp only [List.mem_append, List.mem_singleton] at hq
    rcases hq with (hq | hq) | (hq | hq)
    · exact .inl ⟨.inl hq, setL_old (h5 q (.inl hq)).1⟩
    · exact .inr (.inl (new q hq))
    · exact .inl ⟨.inr hq, setL_old (h5 q (.inr hq)).1⟩
    · subst hq; exact .inr (.inr ⟨rfl, setL_out L M us v⟩)
  refine ⟨hu, _, _, setL L M us v, setN ln M us.length (fun j => (A.getD j []).length) A.length, vi', vl', hB2, fun q hq => ?_, fun q hq => ?_, ?_, ?_, fun q hq => ?_, ?_, ?_, fun p hp q hq => ?_, fun p q hp hq hpq b hb => ?_⟩
  · rcases List.mem_append.1 hq with hq | hq
    · have h10 := (h5 q (.inl hq)).1
      rw [setL_old h10, setN_old h10]; exact h1 q hq
    · obtain ⟨j, x, hj, hx, rfl, e⟩ := new q hq
      rw [e, setN_row ln M _ _ hj]
      exact ⟨_, (hv.row j x hx).1⟩
  · rcases List.mem_append.1 hq with hq | hq
    · have h10 := (h5 q (.inr hq)).1
      rw [setL_old h10, setN_old h10]; exact h2 q hq
    · simp at hq; subst hq
      rw [setL_out, setN_out]
      exact ⟨_, hv.out⟩
  · rw [List.length_append, upN_len]; omega
  · rw [List.length_append, List.length_singleton]; omega
  · rcases cls q hq with ⟨hq, e⟩ | ⟨j, x, hj, hx, rfl, e⟩ | ⟨rfl, e⟩
    · have h10 := h5 q hq
      rw [e, setN_old h10.1]
      exact ⟨by omega, h10.2.1, fun b hb => ⟨(h10.2.2 b hb).1, by have := (h10.2.2 b hb).2; omega⟩⟩
    · rw [e, setN_row ln M _ _ hj]
      exact ⟨by omega, hA2 j, fun b hb => ⟨by have := (hv.low j x b hx hb).1; omega, hr j x b hx hb⟩⟩
    · rw [e, setN_out]
      exact ⟨Nat.le_refl _, by omega, fun b hb => ⟨by have := hv.lov b hb; omega, hvt b hb⟩⟩
  · refine List.nodup_append.2 ⟨h6, upN_nodup _ _, fun p hp q hq e => ?_⟩
    subst e
    obtain ⟨j, hj, e⟩ := mem_upN.1 hq
    have := (h5 p (.inl hp)).1; omega
  · refine List.nodup_append.2 ⟨h7, by simp, fun p hp q hq e => ?_⟩
    subst e
    simp at hq
    have := (h5 p (.inr hp)).1; omega
  · intro e
    subst e
    rcases List.mem_append.1 hp with hp | hp <;> rcases List.mem_append.1 hq with hq | hq
    · exact h8 p hp p hq rfl
    · simp at hq; have := (h5 p (.inl hp)).1; omega
    · obtain ⟨j, hj, e⟩ := mem_upN.1 hp
      have := (h5 p (.inr hq)).1; omega
    · simp at hq
      obtain ⟨j, hj, e⟩ := mem_upN.1 hp
      omega
  · intro hb2
    rcases cls p hp with ⟨hp', e⟩ | ⟨j, x, hj, hx, hpe, e⟩ | ⟨hpe, e⟩ <;> rcases cls q hq with ⟨hq', e'⟩ | ⟨j', x', hj', hx', hqe, e'⟩ | ⟨hqe, e'⟩ <;> rw [e] at hb <;> rw [e'] at hb2
    · exact h9 p q hp' hq' hpq b hb hb2
    · have := ((h5 p hp').2.2 b hb).2; have := (hv.low j' x' b hx' hb2).1; omega
    · have := ((h5 p hp').2.2 b hb).2; have := hv.lov b hb2; omega
    · have := ((h5 q hq').2.2 b hb2).2; have := (hv.low j x b hx hb).1; omega
    · exact hv.dis j j' x x' b hx hx' (fun e3 => hpq (by omega)) hb hb2
    · exact (hv.low j x b hx hb).2 hb2
    · have := ((h5 q hq').2.2 b hb2).2; have := hv.lov b hb; omega
    · exact (hv.low j' x' b hx' hb2).2 hb
    · exact hpq (by omega)
theorem bqInts_ct (lo : Nat) (wk wB w : World) (bk M top top' : Nat) (v : Value) (l : List Int) (h : BkQ lo wB w bk M top) (hv : OwI wk wB v l) (ht : top ≤ wk.heap.size) (hlo : lo ≤ wk.heap.size) (htt : top ≤ top') (hvt : ∀ b, v.ownBlock = some b → b < top') (hl : l.length ≤ 100000) (hM : M ≤ 50000) :
    Ct Tryz.prog 17 #[.pointer (some ⟨bk, 0, none⟩), v] w fun u w' => u = .tuple #[] ∧ BkQ lo wB w' bk (M + 1) top' := by
  obtain ⟨ns, nl, L, ln, vi, vl, hB, h1, h2, h3, h4, h5, h6, h7, h8, h9⟩ := h
  obtain ⟨a, c, hf⟩ := hv.1.slen
  have eo : setL L M [] v (M + 1) = v := setL_out L M [] v
  have eN : setN ln M 0 (fun _ => 0) l.length (M + 1) = l.length := setN_out ln M 0 _ _
  have hB' : Bk wB w bk M ns nl (setL L M [] v) vi vl := hB.congr fun q hq => (setL_old (h5 q hq).1).symm
  have hct := bInts_ct wB bk M ns nl (setL L M [] v) vi vl a l.length c w hB' (by rw [eo]; exact hf) (by omega) (by omega)
  rw [← hf] at hct
  refine hct.mono fun u w' ⟨hu, vi', hB2⟩ => ?_
  have cls : ∀ q, (q ∈ ns ++ [M + 1] ∨ q ∈ nl) → ((q ∈ ns ∨ q ∈ nl) ∧ setL L M [] v q = L q) ∨ (q = M + 1 ∧ setL L M [] v q = v) := fun q hq => by
    simp only [List.mem_append, List.mem_singleton] at hq
    rcases hq with (hq | hq) | hq
    · exact .inl ⟨.inl hq, setL_old (h5 q (.inl hq)).1⟩
    · subst hq; exact .inr ⟨rfl, eo⟩
    · exact .inl ⟨.inr hq, setL_old (h5 q (.inr hq)).1⟩
  refine ⟨hu, _, _, setL L M [] v, setN ln M 0 (fun _ => 0) l.length, vi', vl, hB2, fun q hq => ?_, fun q hq => ?_, ?_, by omega, fun q hq => ?_, ?_, h7, fun p hp q hq e => ?_, fun p q hp hq hpq b hb => ?_⟩
  · rcases List.mem_append.1 hq with hq | hq
    · have h10 := (h5 q (.inl hq)).1
      rw [setL_old h10, setN_old h10]; exact h1 q hq
    · simp at hq; subst hq
      rw [eo, eN]
      exact ⟨_, hv.1⟩
  · have h10 := (h5 q (.inr hq)).1
    rw [setL_old h10, setN_old h10]; exact h2 q hq
  · rw [List.length_append, List.length_singleton]; omega
  · rcases cls q hq with ⟨hq, e⟩ | ⟨rfl, e⟩
    · have h10 := h5 q hq
      rw [e, setN_old h10.1]
      exact ⟨by omega, h10.2.1, fun b hb => ⟨(h10.2.2 b hb).1, by have := (h10.2.2 b hb).2; omega⟩⟩
    · rw [e, eN]
      exact ⟨Nat.le_refl _, hl, fun b hb => ⟨by have := hv.2 b hb; omega, hvt b hb⟩⟩
  · refine List.nodup_append.2 ⟨h6, by simp, fun p hp q hq e => ?_⟩
    subst e
    simp at hq
    have := (h5 p (.inl hp)).1; omega
  · subst e
    rcases List.mem_append.1 hp with hp | hp
    · exact h8 p hp p hq rfl
    · simp at hp; have := (h5 p (.inr hq)).1; omega
  · intro hb2
    rcases cls p hp with ⟨hp', e⟩ | ⟨hpe, e⟩ <;> rcases cls q hq with ⟨hq', e'⟩ | ⟨hqe, e'⟩ <;> rw [e] at hb <;> rw [e'] at hb2
    · exact h9 p q hp' hq' hpq b hb hb2
    · have := ((h5 p hp').2.2 b hb).2; have := hv.2 b hb2; omega
    · have := ((h5 q hq').2.2 b hb2).2; have := hv.2 b hb; omega
    · exact hpq (by omega)
theorem bqApart_ct (lo : Nat) (w0 wB w : World) (bk M top : Nat) (h : BkQ lo wB w bk M top) (h0 : Ex w0 wB) (hlo : w0.heap.size ≤ lo) (ht : top ≤ wB.heap.size) (hM : M ≤ 100000) :
    Ct Tryz.prog 18 #[.pointer (some ⟨bk, 0, none⟩)] w fun u w' => u = .bool true ∧ Ex w0 w' := by
  obtain ⟨ns, nl, L, ln, vi, vl, hB, h1, h2, h3, h4, h5, h6, h7, h8, h9⟩ := h
  refine (Apart_ct wB bk M ns nl L ln vi vl w hB (fun q hq => let ⟨xs, hx⟩ := h1 q hq; ⟨xs, hx.ex hB.ex⟩) (fun q hq => let ⟨xs, hx⟩ := h2 q hq; ⟨xs, hx.ex hB.ex⟩) (by omega) (by omega) (fun q hq => by have := (h5 q (List.mem_append.1 hq)).1; omega) (fun q hq => (h5 q (List.mem_append.1 hq)).2.1) (List.nodup_append.2 ⟨h6, h7, h8⟩) (fun p hp q hq => h9 p q (List.mem_append.1 hp) (List.mem_append.1 hq)) (fun q hq b hb => by have := ((h5 q (List.mem_append.1 hq)).2.2 b hb).2; omega)).mono fun u w' ⟨hu, hk⟩ => ⟨hu, KtS.ex (h0.trans hB.ex) hk (fun b hb => ?_)⟩
  have := h0.size
  rcases hb with ⟨q, hq, hb⟩ | hb
  · have := ((h5 q (List.mem_append.1 hq)).2.2 b hb).1; omega
  · omega
end Go.Proofs.YtifbgpkjbciblaaGreatDoor.Sal
/- The walk of salesroomlaw09.HallsOf. -/
set_option maxRecDepth 100000
namespace Go.Proofs.YtifbgpkjbciblaaGreatDoor.Sal
open Go.RowKit
attribute [local irreducible] Go.Code.wpIn Go.wpListIn Ct Ints Rows Sl At Rw WJ
attribute [local irreducible] Wd
set_option linter.all false
theorem ok_LSize : CallOK Tryz.prog 6 := callOK Tryz.func6 (by kernel_rfl) rfl
theorem in_book : ∃ ti, Tryz.prog.info? 46 = some ti ∧ ti.zero = some (.agg (bkc 0 nilV nilV).toArray) := by
  have h : (Tryz.prog.info? 46).map (·.zero) = some (some (.agg (bkc 0 nilV nilV).toArray)) := by kernel_rfl
  cases hi : Tryz.prog.info? 46 with
  | none => rw [hi] at h; cases h
  | some ti => rw [hi] at h; exact ⟨ti, rfl, by simpa using h⟩
set_option maxHeartbeats 8000000 in
theorem HallsOf_ct (u : Value) (g : List (List Int)) (n : Int) (v1 : Value) (l1 : List Int) (w : World) (hg : Rows w u g) (hn : In64 n) (hl1 : Ints w v1 l1) :
    Ct Tryz.prog 4 #[.agg #[u, .int .i64 n], v1] w fun x w' => x = .bool true ∧ Ex w w' := by
  refine Exists.elim in_book fun ti hti => ?_
  refine enter (N := 81) (vs := [.agg #[u, .int .i64 n], v1]) Tryz.func4 rfl rfl rfl ?_
  have hlen1 := hl1.len
  repeat ((refine isC ?_; refine c_sr ?_))
  refine s_box (cs := [u, .int .i64 n]) rfl rfl ?_
  intro b0 w0 hb0 hZ hx0 hs0
  have hg0 := hg.ex hx0
  have hl10 := hl1.ex hx0
  have hx00 := Ex.refl w0
  repeat (first | (refine isO ?_; refine s_assign ?_) | (refine isO ?_; first | refine s_fa Tryz.underlying24 rfl ty_rows rfl ?_ | refine s_ldO ty_rows (by assumption) (by assumption) rfl rfl ?_) | (refine isC ?_; first | refine c_sr ?_ | refine c_seq ?_) | (refine l_th ?_))
  refine s_call ok_LSize rfl (IntListsSizeW_ct u g w0 hg0) ?_
  rintro v w1 ⟨⟨sz, rfl, hsz⟩, hx1⟩
  have hx01 := hx1
  have hl11 := hl10.ex hx1
  by_cases h1 : (3000 : Int) < sz
  · repeat (first | (refine isO ?_; first | refine s_move ?_ | refine s_assign ?_ | (refine isG ?_; refine g_no rfl rfl rfl ?_) | (refine isBin ?_; refine s_gtrT rfl rfl (by omega) ?_) | (refine isPick ?_; refine s_pickt rfl rfl ?_)) | (refine isC ?_; first | refine c_sr ?_ | refine c_ift rfl ?_ | refine c_ret ?_) | (first | refine l_th ?_ | refine th_ret ?_))
    exact ret1 rfl rfl ⟨rfl, hx0.trans hx1⟩
  by_cases h2 : (300 : Int) < (l1.length : Int)
  · repeat (first | (refine isO ?_; first | refine s_move ?_ | refine s_assign ?_ | (refine isG ?_; refine g_yes rfl rfl ?_) | (refine isBin ?_; first | refine s_gtrT rfl rfl (by omega) ?_ | refine s_gtrF rfl rfl (by omega) ?_) | (refine isCall ?_; refine s_lenI sl_ints rfl (by assumption) ?_) | (refine isPick ?_; refine s_pickf rfl rfl ?_)) | (refine isC ?_; first | refine c_sr ?_ | refine c_ift rfl ?_ | refine c_ret ?_) | (first | refine l_th ?_ | refine th_ret ?_))
    exact ret1 rfl rfl ⟨rfl, hx0.trans hx1⟩
  have hsz' := hsz (by omega)
  repeat (first | (refine isO ?_; first | refine s_move ?_ | (refine isG ?_; refine g_yes rfl rfl ?_) | (refine isBin ?_; refine s_gtrF rfl rfl (by omega) ?_) | (refine isCall ?_; refine s_lenI sl_ints rfl (by assumption) ?_) | (refine isPick ?_; refine s_pickf rfl rfl ?_)) | (refine isO ?_; first | refine s_fa Tryz.underlying24 rfl ty_rows rfl ?_ | refine s_ldO ty_rows (by assumption) (by assumption) rfl rfl ?_) | (refine isC ?_; first | refine c_sr ?_ | refine c_th ?_ | refine c_iff rfl ?_) | (refine l_th ?_))
  refine s_call ok_TwinIntLists rfl (TwinIntListsW_ct u g w1 (hg0.ex hx1) (by omega) (fun i hi => by have := hsz'.2 i hi; omega)) ?_
  rintro v w2 ⟨bg, cg, rb, rc, rfl, hbg, hrb, hTg, hx2⟩
  have hx02 := hx01.trans hx2
  repeat (first | (refine isO ?_; first | refine s_move ?_ | refine s_assign ?_) | (refine isC ?_; refine c_sr ?_) | (refine l_th ?_))
  refine s_call ok_TwinInts rfl (TwinIntsW_ct v1 l1 w2 (hl10.ex hx02) (by omega)) ?_
  rintro v w3 ⟨bt, ct, rfl, hbt, hTt, hx3⟩
  have hx03 := hx02.trans hx3
  have hTg3 := hTg.ex hx3
  repeat (first | (refine isO ?_; first | refine s_move ?_ | refine s_assign ?_) | (refine isO ?_; first | refine s_fa Tryz.underlying24 rfl ty_int rfl ?_ | refine s_ldO ty_int (by assumption) (by assumption) rfl rfl ?_) | (refine isC ?_; refine c_sr ?_) | (refine l_th ?_))
  refine s_call ok_Few rfl (Few_all _ g n _ l1 w3 hTg3.rows hTt.ints) ?_
  rintro v w4 ⟨va, rfl, hOa, hIa, ha8, hx4⟩
  have hx04 := hx03.trans hx4
  have hTg4 := hTg3.ex hx4
  have hTt4 := hTt.ex hx4
  repeat (first | (refine isO ?_; first | refine s_move ?_ | refine s_assign ?_ | refine s_extract rfl rfl ?_) | (refine isO ?_; first | refine s_fa Tryz.underlying24 rfl ty_rows rfl ?_ | refine s_fa Tryz.underlying24 rfl ty_int rfl ?_ | refine s_ldO ty_rows (by assumption) (by assumption) rfl rfl ?_ | refine s_ldO ty_int (by assumption) (by assumption) rfl rfl ?_) | (refine isC ?_; refine c_sr ?_) | (refine l_th ?_))
  refine s_call ok_Few9 rfl (Few9_all u g n v1 l1 w4 (hg0.ex hx04) (hl10.ex hx04)) ?_
  rintro v w7 ⟨vb, rfl, hIb, hx57⟩
  have hx07 := hx04.trans hx57
  have hTg7 := hTg4.ex hx57
  have hTt7 := hTt4.ex hx57
  repeat (first | (refine isO ?_; first | refine s_move ?_ | refine s_assign ?_ | (refine isG ?_; refine g_yes rfl rfl ?_) | (refine isBin ?_; refine s_neqF rfl rfl (by omega) ?_) | (refine isPick ?_; refine s_pickf rfl rfl ?_) | refine s_extract rfl rfl ?_) | (refine isO ?_; refine s_neqb Tryz.underlying4 rfl rfl ?_) | (refine isC ?_; first | refine c_sr ?_ | refine c_seq ?_) | (refine l_th ?_))
  refine s_re (v' := .bool false) (vbool (by simp)) ?_
  repeat ((refine isO ?_; first | refine s_move ?_ | (refine isG ?_; refine g_yes rfl rfl ?_)))
  refine s_call ok_SameInts rfl (SameInts_ct va vb _ _ w7 (hIa.ex hx57) hIb) ?_
  rintro x w8 ⟨rfl, hx8⟩
  have hx08 := hx07.trans hx8
  refine s_re (v' := .bool true) (vbool (by simp)) ?_
  repeat (first | (refine isO ?_; first | refine s_move ?_ | (refine isG ?_; refine g_yes rfl rfl ?_) | (refine isPick ?_; refine s_pickf rfl rfl ?_) | refine s_not rfl ?_) | (refine isO ?_; first | refine s_fa Tryz.underlying24 rfl ty_rows rfl ?_ | refine s_ldO ty_rows (by assumption) (by assumption) rfl rfl ?_))
  refine s_call ok_LeftIntLists rfl (LeftIntLists_ct bg cg rb rc g u w8 (hTg7.ex hx8) (hg0.ex hx08)) ?_
  rintro x w9 ⟨rfl, hx9⟩
  have hx09 := hx08.trans hx9
  repeat ((refine isO ?_; first | refine s_move ?_ | (refine isG ?_; refine g_yes rfl rfl ?_) | (refine isPick ?_; refine s_pickf rfl rfl ?_) | refine s_not rfl ?_))
  refine s_call ok_LeftInts rfl (LeftInts_ct bt ct l1 v1 w9 (hTt7.ex (hx8.trans hx9)) (hl10.ex hx09)) ?_
  rintro x yb ⟨rfl, hya⟩
  have hx0b := hx09.trans hya
  have hx7b := (hx8.trans hx9).trans hya
  have z1 := hx1.size
  have z2 := hx2.size
  have z3 := hx3.size
  have z4 := hx4.size
  have z57 := hx57.size
  have z7b := hx7b.size
  have hlt2 := hTg.wd.lt
  have hltr : ∀ (j : Nat) x b, ((List.range g.length).map (fun i => sv (rb i) (g.getD i []).length (rc i)))[j]? = some x → Value.ownBlock x = some b → b < w2.heap.size := fun j x b hu hb => ((hTg.ow (w0 := w1) hbg hrb).row j x hu).1.lt b hb
  have hOwg := (hTg7.ow (w0 := w1) hbg hrb).ex hx7b
  have hlenr : ∀ j, (g.getD j []).length ≤ 100000 := fun j => by
    by_cases hj : j < g.length
    · have := hsz'.2 j hj; omega
    · rw [List.getD_eq_getElem?_getD, List.getElem?_eq_none (by omega)]; simp
  have hOwt := (hTt7.ow (w0 := w2) hbt).ex hx7b
  have hOwa := (hOa.ex hx57).ex hx7b
  have hlt3 := hTt.wd.lt
  have hlta := hOa.1.lt
  have hgl : ((List.range g.length).map (fun i => sv (rb i) (g.getD i []).length (rc i))).length = g.length := by simp
  repeat (first | (refine isO ?_; first | (refine isG ?_; refine g_yes rfl rfl ?_) | (refine isPick ?_; refine s_pickf rfl rfl ?_) | refine s_not rfl ?_) | (refine isC ?_; first | refine c_sr ?_ | refine c_th ?_ | refine c_iff rfl ?_) | (refine l_th ?_))
  refine s_alloc (cs := bkc 0 nilV nilV) hti.1 hti.2 rfl ?_
  intro bk k0 hbk hAk hxk hsk
  have hQ0 : BkQ w0.heap.size yb k0 bk 0 w1.heap.size := BkQ.init hxk (by omega) hAk
  repeat (first | (refine isO ?_; refine s_move ?_) | (refine isC ?_; refine c_sr ?_) | (refine l_th ?_))
  refine s_call ok_bIntLists rfl (bqIntLists_ct w0.heap.size w1 yb k0 bk 0 w1.heap.size w2.heap.size _ _ g hQ0 hOwg (Nat.le_refl _) z1 z2 hltr hlt2 (by omega) hlenr (by omega)) ?_
  rintro x k1 ⟨rfl, hQ1⟩
  repeat (first | (refine isO ?_; refine s_move ?_) | (refine isC ?_; refine c_sr ?_) | (refine l_th ?_))
  refine s_call ok_bInts rfl (bqInts_ct w0.heap.size w2 yb k1 bk _ w2.heap.size w3.heap.size _ l1 hQ1 hOwt (Nat.le_refl _) (by omega) z3 hlt3 (by omega) (by omega)) ?_
  rintro x k2 ⟨rfl, hQ2⟩
  repeat (first | (refine isO ?_; refine s_move ?_) | (refine isC ?_; refine c_sr ?_) | (refine l_th ?_))
  refine s_call ok_bInts rfl (bqInts_ct w0.heap.size w3 yb k2 bk _ w3.heap.size w4.heap.size va _ hQ2 hOwa (Nat.le_refl _) (by omega) z4 hlta (by omega) (by omega)) ?_
  rintro x k3 ⟨rfl, hQ3⟩
  repeat (first | (refine isC ?_; refine c_sr ?_) | (refine l_th ?_))
  refine s_call ok_Apart rfl (bqApart_ct w0.heap.size w0 yb k3 bk _ w4.heap.size hQ3 hx0b (Nat.le_refl _) (by omega) (by omega)) ?_
  rintro x k6 ⟨rfl, hxk6⟩
  repeat (first | (refine isO ?_; refine s_assign ?_) | (refine isC ?_; refine c_ret ?_) | (refine l_th ?_))
  exact ret1 rfl rfl ⟨rfl, hx0.trans hxk6⟩
end Go.Proofs.YtifbgpkjbciblaaGreatDoor.Sal
