/- Texts that YtifbgpkjbciblaaGreatDoorFRO leans on, laid together: G1 TW G2 G3 G4 G5 V1 RF G6 G7 G8 G9. -/
import Derived.Test.YtifbgpkjbciblaaGreatDoorMFRO3
import Derived.Test.YtifbgpkjbciblaaGreatDoorMFRO2
section
/- slices.Index, Contains, Clip, Clone at []int; graphs.rises, Check, Many. -/
set_option maxRecDepth 100000
namespace Go.Proofs.YtifbgpkjbciblaaGreatDoor.Sal
open Go.RowKit
attribute [local irreducible] Go.Code.wpIn Go.wpListIn Ct Ints Rows Sl At Rw WJ
set_option linter.all false
theorem ok_Index : CallOK Tryz.prog 116 := callOK Tryz.func116 (by kernel_rfl) rfl
theorem ok_Contains : CallOK Tryz.prog 74 := callOK Tryz.func74 (by kernel_rfl) rfl
theorem ok_Clip : CallOK Tryz.prog 35 := callOK Tryz.func35 (by kernel_rfl) rfl
theorem ok_rises : CallOK Tryz.prog 90 := callOK Tryz.func90 (by kernel_rfl) rfl
theorem ok_Chk1 : CallOK Tryz.prog 89 := callOK Tryz.func89 (by kernel_rfl) rfl
theorem ok_Check : CallOK Tryz.prog 31 := callOK Tryz.func31 (by kernel_rfl) rfl
theorem ok_Many : CallOK Tryz.prog 39 := callOK Tryz.func39 (by kernel_rfl) rfl
def eqB (q : Int) (x : Int) : Bool := decide (q = x)
theorem Index_ct (v : Value) (l : List Int) (q : Int) (w : World) (hl : Ints w v l) :
    Ct Tryz.prog 116 #[v, .int .i64 q] w fun u w' => (∃ n : Int, u = .int .i64 n ∧ (0 ≤ n ↔ l.any (eqB q) = true)) ∧ Ex w w' := by
  have hlen := hl.len
  refine enter (N := 19) (vs := [v, .int .i64 q]) Tryz.func116 rfl rfl rfl ?_
  repeat (first | (refine isO ?_; first | refine s_move ?_ | refine s_assign ?_ | (refine isCall ?_; refine s_lenI sl_ints rfl (by assumption) ?_)) | (refine isC ?_; first | refine c_sr ?_ | refine c_seq ?_ | refine c_block ?_) | (refine l_th ?_))
  refine c_loop (γ := Nat) 524080 (fun k => [(8, .int .i64 (k : Int))]) (fun k w' => k ≤ l.length ∧ (l.take k).any (eqB q) = false ∧ Ex w w') (fun k => l.length - k) 0 ⟨rfl, trivial⟩ ⟨Nat.zero_le _, rfl, Ex.refl _⟩ ?_
  rintro k ρ w' ⟨hk, hno, hx⟩
  have hl' := hl.ex hx
  repeat (first | (refine isO ?_; (refine isBin ?_; refine s_lss rfl rfl ?_)) | (refine isC ?_; first | refine c_sr ?_ | refine c_seq ?_) | (refine l_th ?_))
  refine c_ifd rfl (fun h => ?_) (fun h => ?_)
  · have hk' : k < l.length := by omega
    by_cases hp : q = l.getD k 0
    · repeat (first | (refine isO ?_; first | refine s_move ?_ | refine s_assign ?_ | (refine isBin ?_; refine s_eqlT rfl rfl (by omega) ?_) | (refine isIA ?_; refine s_ixI sl_ints ty_int rfl rfl rfl (by assumption) (by omega) ?_; intro _)) | (refine isC ?_; first | refine c_sr ?_ | refine c_th ?_ | refine c_seq ?_ | refine c_ift rfl ?_ | refine c_block ?_ | refine c_ret ?_) | (first | refine l_th ?_ | refine th_ret ?_ | refine ib_ret ?_))
      exact ret1 rfl rfl ⟨⟨_, rfl, fun _ => any_of_getD l (eqB q) k 0 hk' (by unfold eqB; exact decide_eq_true hp), fun _ => by omega⟩, hx⟩
    · repeat (first | (refine isO ?_; first | refine s_move ?_ | refine s_assign ?_ | (refine isBin ?_; first | refine s_inc rfl (by omega) ?_ | refine s_eqlF rfl rfl (by omega) ?_) | (refine isIA ?_; refine s_ixI sl_ints ty_int rfl rfl rfl (by assumption) (by omega) ?_; intro _)) | (refine isC ?_; first | refine c_sr ?_ | refine c_th ?_ | refine c_seq ?_ | refine c_region ?_ | refine c_iff rfl ?_ | refine c_block ?_ | refine c_skip ?_) | (refine l_th ?_))
      refine loop_end (k + 1) (by (repeat (first | exact agree_refl _ _ | refine agree_upd rfl ?_ | refine agree_ext rfl ?_ | refine agree_mask rfl ?_))) ⟨rfl, trivial⟩ ⟨hk', ?_, hx⟩ (by omega)
      rw [any_take_succ l (eqB q) k 0 hk', hno]; unfold eqB; rw [decide_eq_false hp]; rfl
  · repeat (first | (refine isO ?_; refine s_assign ?_) | (refine isC ?_; first | refine c_sr ?_ | refine c_ret ?_ | refine c_exit ?_) | (refine l_th ?_))
    refine ret1 rfl rfl ⟨⟨_, rfl, fun h0 => by omega, fun h1 => ?_⟩, hx⟩
    rw [List.take_of_length_le (by omega)] at hno
    rw [hno] at h1; cases h1
theorem any_eqB (l : List Int) (q : Int) : l.any (eqB q) = l.contains q := by
  induction l with
  | nil => rfl
  | cons x l ih =>
    rw [List.any_cons, ih, List.contains_cons]
    rfl
theorem Contains_ct (v : Value) (l : List Int) (q : Int) (w : World) (hl : Ints w v l) :
    Ct Tryz.prog 74 #[v, .int .i64 q] w fun u w' => u = .bool (l.contains q) ∧ Ex w w' := by
  refine enter (N := 9) (vs := [v, .int .i64 q]) Tryz.func74 rfl rfl rfl ?_
  repeat (first | (refine isO ?_; first | refine s_move ?_ | refine s_assign ?_) | (refine isC ?_; refine c_sr ?_) | (refine l_th ?_))
  refine s_call ok_Index rfl (Index_ct v l q w hl) ?_
  rintro u w' ⟨⟨n, rfl, hn⟩, hx⟩
  refine s_geq rfl rfl ?_
  repeat (first | (refine isO ?_; refine s_assign ?_) | (refine isC ?_; refine c_ret ?_) | (refine l_th ?_))
  exact ret1 rfl rfl ⟨vbool ((dec_bool hn).trans (any_eqB l q)), hx⟩
/-- Does a list rise, above some number, below some one? -/
def risB : Int → List Int → Int → Bool
  | _, [], _ => true
  | a, x :: l, m => !(decide (x ≤ a) || decide (m ≤ x)) && risB x l m
def lastD (a : Int) : List Int → Int
  | [] => a
  | x :: l => lastD x l
theorem risB_take (m : Int) : ∀ (l : List Int) (a : Int) (k : Nat), k < l.length → risB a (l.take k) m = true → (risB a (l.take (k + 1)) m = !(decide (l.getD k 0 ≤ lastD a (l.take k)) || decide (m ≤ l.getD k 0))) ∧ lastD a (l.take (k + 1)) = l.getD k 0 ∧ (risB a (l.take (k + 1)) m = false → risB a l m = false)
  | x :: l, a, 0, _, _ => by
    refine ⟨by simp [risB, lastD], by simp [lastD], fun h => ?_⟩
    have h' : (!(decide (x ≤ a) || decide (m ≤ x)) && true) = false := by simpa [risB] using h
    rw [Bool.and_true] at h'
    simp only [risB, h', Bool.false_and]
  | x :: l, a, k + 1, hk, h => by
    simp only [List.take_succ_cons, risB, Bool.and_eq_true] at h
    obtain ⟨h1, h2, h3⟩ := risB_take m l x k (by simpa using hk) h.2
    refine ⟨?_, ?_, fun hh => ?_⟩
    · simp only [List.take_succ_cons, risB, lastD, h.1, Bool.true_and, List.getD_cons_succ]
      exact h1
    · simp only [List.take_succ_cons, lastD, List.getD_cons_succ]; exact h2
    · simp only [List.take_succ_cons, risB, h.1, Bool.true_and] at hh
      simp only [risB, h.1, Bool.true_and]; exact h3 hh
theorem rises_ct (v : Value) (l : List Int) (m : Int) (w : World) (hl : Ints w v l) :
    Ct Tryz.prog 90 #[v, .int .i64 m] w fun u w' => u = .bool (risB (-1) l m) ∧ Ex w w' := by
  have hlen := hl.len
  refine enter (N := 24) (vs := [v, .int .i64 m]) Tryz.func90 rfl rfl rfl ?_
  repeat (first | (refine isO ?_; first | refine s_move ?_ | refine s_assign ?_ | (refine isCall ?_; refine s_lenI sl_ints rfl (by assumption) ?_)) | (refine isC ?_; first | refine c_sr ?_ | refine c_seq ?_ | refine c_block ?_) | (refine l_th ?_))
  refine c_loop (γ := Nat) 16776368 (fun k => [(10, .int .i64 (k : Int)), (5, .int .i64 (lastD (-1) (l.take k)))]) (fun k w' => k ≤ l.length ∧ risB (-1) (l.take k) m = true ∧ Ex w w') (fun k => l.length - k) 0 ⟨rfl, vint rfl, trivial⟩ ⟨Nat.zero_le _, rfl, Ex.refl _⟩ ?_
  rintro k ρ w' ⟨hk, hok, hx⟩
  have hl' := hl.ex hx
  repeat (first | (refine isO ?_; (refine isBin ?_; refine s_lss rfl rfl ?_)) | (refine isC ?_; first | refine c_sr ?_ | refine c_seq ?_) | (refine l_th ?_))
  refine c_ifd rfl (fun h => ?_) (fun h => ?_)
  · have hk' : k < l.length := by omega
    have ht := risB_take m l (-1) k hk' hok
    have ht1 := ht.1
    have ht2 := ht.2.1
    have ht3 := ht.2.2
    by_cases h1 : l.getD k 0 ≤ lastD (-1) (l.take k)
    · rw [decide_eq_true h1] at ht1
      repeat (first | (refine isO ?_; first | refine s_move ?_ | refine s_assign ?_ | (refine isG ?_; refine g_no rfl rfl rfl ?_) | (refine isBin ?_; refine s_leqT rfl rfl (by omega) ?_) | (refine isIA ?_; refine s_ixI sl_ints ty_int rfl rfl rfl (by assumption) (by omega) ?_; intro _) | (refine isPick ?_; refine s_pickt rfl rfl ?_)) | (refine isC ?_; first | refine c_sr ?_ | refine c_th ?_ | refine c_seq ?_ | refine c_ift rfl ?_ | refine c_block ?_ | refine c_ret ?_) | (first | refine l_th ?_ | refine th_ret ?_ | refine ib_ret ?_))
      exact ret1 rfl rfl ⟨vbool (ht3 ht1).symm, hx⟩
    · by_cases h2 : m ≤ l.getD k 0
      · rw [decide_eq_true h2, Bool.or_true] at ht1
        repeat (first | (refine isO ?_; first | refine s_move ?_ | refine s_assign ?_ | (refine isG ?_; refine g_yes rfl rfl ?_) | (refine isBin ?_; first | refine s_leqF rfl rfl (by omega) ?_ | refine s_geqT rfl rfl (by omega) ?_) | (refine isIA ?_; refine s_ixI sl_ints ty_int rfl rfl rfl (by assumption) (by omega) ?_; intro _) | (refine isPick ?_; refine s_pickf rfl rfl ?_)) | (refine isC ?_; first | refine c_sr ?_ | refine c_th ?_ | refine c_seq ?_ | refine c_ift rfl ?_ | refine c_block ?_ | refine c_ret ?_) | (first | refine l_th ?_ | refine th_ret ?_ | refine ib_ret ?_))
        exact ret1 rfl rfl ⟨vbool (ht3 ht1).symm, hx⟩
      · rw [decide_eq_false h1, decide_eq_false h2] at ht1
        repeat (first | (refine isO ?_; first | refine s_move ?_ | refine s_assign ?_ | (refine isG ?_; refine g_yes rfl rfl ?_) | (refine isBin ?_; first | refine s_inc rfl (by omega) ?_ | refine s_leqF rfl rfl (by omega) ?_ | refine s_geqF rfl rfl (by omega) ?_) | (refine isIA ?_; refine s_ixI sl_ints ty_int rfl rfl rfl (by assumption) (by omega) ?_; intro _) | (refine isPick ?_; refine s_pickf rfl rfl ?_)) | (refine isC ?_; first | refine c_sr ?_ | refine c_th ?_ | refine c_seq ?_ | refine c_region ?_ | refine c_iff rfl ?_ | refine c_block ?_) | (first | refine l_th ?_ | refine l_nil ?_))
        exact loop_end (k + 1) (by (repeat (first | exact agree_refl _ _ | refine agree_upd rfl ?_ | refine agree_ext rfl ?_ | refine agree_mask rfl ?_))) ⟨rfl, vint ht2.symm, trivial⟩ ⟨hk', ht1, hx⟩ (by omega)
  · rw [List.take_of_length_le (by omega)] at hok
    repeat (first | (refine isO ?_; refine s_assign ?_) | (refine isC ?_; first | refine c_sr ?_ | refine c_ret ?_ | refine c_exit ?_) | (refine l_th ?_))
    exact ret1 rfl rfl ⟨vbool hok.symm, hx⟩
def chkG (g : List (List Int)) (n : Int) : Bool := decide (0 ≤ n) && decide (n ≤ 8) && decide ((g.length : Int) ≤ 8) && !(g.any fun l => !risB (-1) l n)
theorem Chk1_ct (u : Value) (l : List Int) (b : Nat) (n : Int) (w : World) (hl : Ints w u l) (hb : At w b 3 [.int .i64 n]) :
    Ct Tryz.prog 89 #[u, .pointer (some ⟨b, 0, none⟩)] w fun v w' => v = .bool (!risB (-1) l n) ∧ Ex w w' := by
  refine enter (N := 8) (vs := [u, .pointer (some ⟨b, 0, none⟩)]) Tryz.func89 rfl rfl rfl ?_
  repeat (first | (refine isO ?_; first | refine s_move ?_ | refine s_assign ?_ | (refine isLD ?_; refine s_ldA ty_int rfl (by assumption) rfl ?_)) | (refine isC ?_; refine c_sr ?_) | (refine l_th ?_))
  refine s_call ok_rises rfl (rises_ct u l n w hl) ?_
  rintro v w' ⟨rfl, hx⟩
  repeat (first | (refine isO ?_; first | refine s_assign ?_ | refine s_not rfl ?_) | (refine isC ?_; refine c_ret ?_) | (refine l_th ?_))
  exact ret1 rfl rfl ⟨rfl, hx⟩
theorem Check_ct (v : Value) (g : List (List Int)) (n : Int) (w : World) (hg : Rows w v g) :
    Ct Tryz.prog 31 #[v, .int .i64 n] w fun u w' => u = .bool (chkG g n) ∧ Ex w w' := by
  refine enter (N := 22) (vs := [v, .int .i64 n]) Tryz.func31 rfl rfl rfl ?_
  repeat ((refine isC ?_; refine c_sr ?_))
  refine s_box (cs := [.int .i64 n]) rfl rfl ?_
  intro b w1 hb hA hx hs
  have hg1 := hg.ex hx
  by_cases h1 : 0 ≤ n
  · by_cases h2 : n ≤ 8
    · by_cases h3 : (g.length : Int) ≤ 8
      · repeat (first | (refine isO ?_; first | refine s_move ?_ | refine s_assign ?_ | (refine isG ?_; refine g_yes rfl rfl ?_) | (refine isBin ?_; first | refine s_leqT rfl rfl (by omega) ?_ | refine s_geqT rfl rfl (by omega) ?_) | (refine isCall ?_; refine s_lenR sl_rows rfl (by assumption) ?_) | (refine isPick ?_; refine s_pickt rfl rfl ?_) | (refine isLD ?_; refine s_ldA ty_int rfl (by assumption) rfl ?_)) | (refine isC ?_; refine c_sr ?_) | (refine l_th ?_))
        refine s_mkfn (vs := [.pointer (some ⟨b, 0, none⟩)]) rfl ?_
        repeat ((refine isO ?_; (refine isG ?_; refine g_yes rfl rfl ?_)))
        refine s_call ok_cfR rfl (cfR_ct v g 89 [.pointer (some ⟨b, 0, none⟩)] (fun l => !risB (-1) l n) w1 hg1 ⟨ok_Chk1, fun u l w2 h2 hu => Chk1_ct u l _ n w2 hu (hA.ex h2)⟩) ?_
        rintro u w2 ⟨rfl, hx2⟩
        repeat (first | (refine isO ?_; first | refine s_assign ?_ | (refine isG ?_; refine g_yes rfl rfl ?_) | (refine isPick ?_; refine s_pickt rfl rfl ?_) | refine s_not rfl ?_) | (refine isC ?_; refine c_ret ?_) | (refine l_th ?_))
        exact ret1 rfl rfl ⟨vbool (by simp [chkG, h1, h2, h3]), hx.trans hx2⟩
      · repeat (first | (refine isO ?_; first | refine s_move ?_ | refine s_assign ?_ | (refine isG ?_; first | refine g_yes rfl rfl ?_ | refine g_no rfl rfl rfl ?_) | (refine isBin ?_; first | refine s_leqT rfl rfl (by omega) ?_ | refine s_leqF rfl rfl (by omega) ?_ | refine s_geqT rfl rfl (by omega) ?_) | (refine isCall ?_; refine s_lenR sl_rows rfl (by assumption) ?_) | (refine isPick ?_; first | refine s_pickt rfl rfl ?_ | refine s_pickf rfl rfl ?_) | (refine isLD ?_; refine s_ldA ty_int rfl (by assumption) rfl ?_)) | (refine isC ?_; first | refine c_sr ?_ | refine c_ret ?_) | (refine l_th ?_))
        exact ret1 rfl rfl ⟨vbool (by simp [chkG, h3]), hx⟩
    · repeat (first | (refine isO ?_; first | refine s_move ?_ | refine s_assign ?_ | (refine isG ?_; first | refine g_yes rfl rfl ?_ | refine g_no rfl rfl rfl ?_) | (refine isBin ?_; first | refine s_leqF rfl rfl (by omega) ?_ | refine s_geqT rfl rfl (by omega) ?_) | (refine isPick ?_; first | refine s_pickt rfl rfl ?_ | refine s_pickf rfl rfl ?_) | (refine isLD ?_; refine s_ldA ty_int rfl (by assumption) rfl ?_)) | (refine isC ?_; first | refine c_sr ?_ | refine c_ret ?_) | (refine l_th ?_))
      exact ret1 rfl rfl ⟨vbool (by simp [chkG, h2]), hx⟩
  · repeat (first | (refine isO ?_; first | refine s_move ?_ | refine s_assign ?_ | (refine isG ?_; refine g_no rfl rfl rfl ?_) | (refine isBin ?_; refine s_geqF rfl rfl (by omega) ?_) | (refine isPick ?_; refine s_pickf rfl rfl ?_) | (refine isLD ?_; refine s_ldA ty_int rfl (by assumption) rfl ?_)) | (refine isC ?_; first | refine c_sr ?_ | refine c_ret ?_) | (refine l_th ?_))
    exact ret1 rfl rfl ⟨vbool (by simp [chkG, h1]), hx⟩
theorem cnt_matL (l : List Int) (k : Nat) (hk : k < l.length) : cnt (mat l) (k + 1) = cnt (mat l) k + (if l.getD k 0 = -1 then 0 else 1) := by
  have e : l.getD k (-1) = l.getD k 0 := by simp [List.getD_eq_getElem?_getD, hk]
  show cnt (mat l) k + (if mat l k = true then 1 else 0) = _
  unfold mat
  rw [e]
  by_cases h : l.getD k 0 = -1 <;> simp [h]
theorem Many_ct (v : Value) (l : List Int) (w : World) (hl : Ints w v l) :
    Ct Tryz.prog 39 #[v] w fun u w' => u = .int .i64 (cnt (mat l) l.length : Int) ∧ Ex w w' := by
  have hlen := hl.len
  refine enter (N := 17) (vs := [v]) Tryz.func39 rfl rfl rfl ?_
  repeat (first | (refine isO ?_; first | refine s_move ?_ | refine s_assign ?_ | (refine isCall ?_; refine s_lenI sl_ints rfl (by assumption) ?_)) | (refine isC ?_; first | refine c_sr ?_ | refine c_seq ?_ | refine c_block ?_) | (refine l_th ?_))
  refine c_loop (γ := Nat) 65428 (fun k => [(7, .int .i64 (k : Int)), (2, .int .i64 ((cnt (mat l) k : Nat) : Int))]) (fun k w' => k ≤ l.length ∧ Ex w w') (fun k => l.length - k) 0 ⟨rfl, vint rfl, trivial⟩ ⟨Nat.zero_le _, Ex.refl _⟩ ?_
  rintro k ρ w' ⟨hk, hx⟩
  have hl' := hl.ex hx
  have hcb := cnt_bound (mat l) k
  repeat (first | (refine isO ?_; (refine isBin ?_; refine s_lss rfl rfl ?_)) | (refine isC ?_; first | refine c_sr ?_ | refine c_seq ?_) | (refine l_th ?_))
  refine c_ifd rfl (fun h => ?_) (fun h => ?_)
  · have hk' : k < l.length := by omega
    have hs := cnt_matL l k hk'
    by_cases h1 : l.getD k 0 = -1
    · rw [if_pos h1] at hs
      repeat (first | (refine isO ?_; first | refine s_move ?_ | refine s_assign ?_ | (refine isBin ?_; first | refine s_inc rfl (by omega) ?_ | refine s_neqF rfl rfl (by omega) ?_) | (refine isIA ?_; refine s_ixI sl_ints ty_int rfl rfl rfl (by assumption) (by omega) ?_; intro _)) | (refine isC ?_; first | refine c_sr ?_ | refine c_th ?_ | refine c_seq ?_ | refine c_region ?_ | refine c_iff rfl ?_ | refine c_block ?_ | refine c_skip ?_) | (refine l_th ?_))
      exact loop_end (k + 1) (by (repeat (first | exact agree_refl _ _ | refine agree_upd rfl ?_ | refine agree_ext rfl ?_ | refine agree_mask rfl ?_))) ⟨rfl, vint (by rw [hs]; rfl), trivial⟩ ⟨hk', hx⟩ (by omega)
    · rw [if_neg h1] at hs
      repeat (first | (refine isO ?_; first | refine s_move ?_ | refine s_assign ?_ | (refine isBin ?_; first | refine s_inc rfl (by omega) ?_ | refine s_neqT rfl rfl (by omega) ?_) | (refine isIA ?_; refine s_ixI sl_ints ty_int rfl rfl rfl (by assumption) (by omega) ?_; intro _)) | (refine isC ?_; first | refine c_sr ?_ | refine c_th ?_ | refine c_seq ?_ | refine c_region ?_ | refine c_ift rfl ?_ | refine c_block ?_) | (first | refine l_th ?_ | refine l_nil ?_))
      exact loop_end (k + 1) (by (repeat (first | exact agree_refl _ _ | refine agree_upd rfl ?_ | refine agree_ext rfl ?_ | refine agree_mask rfl ?_))) ⟨rfl, vint (by rw [hs]), trivial⟩ ⟨hk', hx⟩ (by omega)
  · have : k = l.length := by omega
    subst this
    repeat (first | (refine isO ?_; first | refine s_move ?_ | refine s_assign ?_) | (refine isC ?_; first | refine c_sr ?_ | refine c_ret ?_ | refine c_exit ?_) | (refine l_th ?_))
    exact ret1 rfl rfl ⟨rfl, hx⟩
end Go.Proofs.YtifbgpkjbciblaaGreatDoor.Sal
end
section
/- salesroomlaw01: SameInts, TwinInts, TwinIntLists; for the graphs. -/
set_option maxRecDepth 100000
namespace Go.Proofs.YtifbgpkjbciblaaGreatDoor.Sal
open Go.RowKit
attribute [local irreducible] Go.Code.wpIn Go.wpListIn Ct Ints Rows Sl At Rw WJ
set_option linter.all false
theorem one_int (n : Int) : ∀ u ∈ [Value.int .i64 n], u.oneCell' = true := by
  intro u hu; simp at hu; subst hu; rfl
theorem in_int' : ∃ ti, Tryz.prog.info? 3 = some ti ∧ ti.zero = some (.int .i64 0) ∧ ti.size = 1 ∧ ti.bytes ≤ 64 := in_int.ex
theorem ty_rows : Ty1 Tryz.prog 22 := ⟨let ⟨i, h, _, hs, _⟩ := info_parts (show (Tryz.prog.info? 22).map (fun i => (i.zero, i.size, i.bytes)) = some (some (.slice none 0 0), 1, 24) by kernel_rfl); ⟨i, h, hs⟩, _, Tryz.underlying22, rfl⟩
theorem ok_SameInts : CallOK Tryz.prog 13 := callOK Tryz.func13 (by kernel_rfl) rfl
theorem same_step {a b : List Int} {k : Nat} (ha : k < a.length) (hl : a.length = b.length) (h : a.take k = b.take k) (he : a.getD k 0 = b.getD k 0) : a.take (k + 1) = b.take (k + 1) := by
  have hb : k < b.length := by omega
  rw [List.take_succ_eq_append_getElem ha, List.take_succ_eq_append_getElem hb, h]
  simp [ha, hb] at he
  rw [he]
theorem same_diff {a b : List Int} {k : Nat} (he : a.getD k 0 ≠ b.getD k 0) : a ≠ b := fun h => he (by rw [h])
theorem SameInts_ct (u v : Value) (a b : List Int) (w : World) (ha : Ints w u a) (hb : Ints w v b) :
    Ct Tryz.prog 13 #[u, v] w fun x w' => x = .bool (decide (a = b)) ∧ Ex w w' := by
  have hla := ha.len
  have hlb := hb.len
  refine enter (N := 26) (vs := [u, v]) Tryz.func13 rfl rfl rfl ?_
  by_cases hl : a.length = b.length
  · repeat (first | (refine isO ?_; first | refine s_move ?_ | refine s_assign ?_ | (refine isBin ?_; refine s_neqF rfl rfl (by omega) ?_) | (refine isCall ?_; refine s_lenI sl_ints rfl (by assumption) ?_)) | (refine isC ?_; first | refine c_sr ?_ | refine c_th ?_ | refine c_seq ?_ | refine c_iff rfl ?_ | refine c_block ?_) | (refine l_th ?_))
    refine c_loop (γ := Nat) 67106864 (fun k => [(5, .int .i64 (k : Int))]) (fun k w' => k ≤ a.length ∧ a.take k = b.take k ∧ Ex w w') (fun k => a.length - k) 0 ⟨rfl, trivial⟩ ⟨Nat.zero_le _, rfl, Ex.refl _⟩ ?_
    rintro k ρ w1 ⟨hk, htk, hx⟩
    have ha1 := ha.ex hx
    have hb1 := hb.ex hx
    repeat (first | (refine isO ?_; first | refine s_move ?_ | (refine isBin ?_; refine s_lss rfl rfl ?_) | (refine isCall ?_; refine s_lenI sl_ints rfl (by assumption) ?_)) | (refine isC ?_; first | refine c_sr ?_ | refine c_seq ?_) | (refine l_th ?_))
    refine c_ifd rfl (fun h => ?_) (fun h => ?_)
    · have hk' : k < a.length := by omega
      repeat ((refine isC ?_; first | refine c_th ?_ | refine c_seq ?_ | refine c_block ?_))
      refine c_draw 0 8 [(0, true), (1, true), (2, true), (3, true), (4, true), (5, true), (6, true), (7, true), (8, true)] mixed (by kernel_rfl) ?_
      have ha2 := ha1.ex (Ex.drew w1)
      have hb2 := hb1.ex (Ex.drew w1)
      refine d_move rfl ?_
      refine d_move rfl ?_
      refine d_iaI rfl sl_ints ty_int rfl rfl ha2 hk' ?_
      intro ad1 hc1
      refine d_ld rfl ty_int rfl hc1 ?_
      refine d_move rfl ?_
      refine d_move rfl ?_
      refine d_iaI rfl sl_ints ty_int rfl rfl hb2 (by omega) ?_
      intro ad2 hc2
      refine d_ld rfl ty_int rfl hc2 ?_
      refine d_neq rfl rfl rfl ?_
      refine d_nil ?_
      have hx2 : Ex w w1.drew := hx.trans (Ex.drew w1)
      refine c_ifd rfl (fun h2 => ?_) (fun h2 => ?_)
      · repeat (first | (refine isO ?_; refine s_assign ?_) | (refine isC ?_; first | refine c_sr ?_ | refine c_ret ?_) | (first | refine l_th ?_ | refine th_ret ?_ | refine ib_ret ?_))
        exact ret1 rfl rfl ⟨vbool (decide_eq_false (same_diff h2)).symm, hx2⟩
      · repeat (first | (refine isO ?_; first | refine s_move ?_ | refine s_assign ?_ | (refine isBin ?_; refine s_inc rfl (by omega) ?_)) | (refine isC ?_; first | refine c_region ?_ | refine c_skip ?_) | (refine l_th ?_))
        refine loop_end (k + 1) (by (repeat (first | exact agree_refl _ _ | refine agree_upd rfl ?_ | refine agree_ext rfl ?_ | refine agree_mask rfl ?_))) ⟨rfl, trivial⟩ ⟨hk', same_step hk' hl htk (Decidable.of_not_not h2), hx2⟩ (by omega)
    · repeat (first | (refine isO ?_; refine s_assign ?_) | (refine isC ?_; first | refine c_sr ?_ | refine c_ret ?_ | refine c_exit ?_) | (refine l_th ?_))
      refine ret1 rfl rfl ⟨vbool (decide_eq_true ?_).symm, hx⟩
      rw [List.take_of_length_le (by omega), List.take_of_length_le (by omega)] at htk
      exact htk
  · repeat (first | (refine isO ?_; first | refine s_move ?_ | refine s_assign ?_ | (refine isBin ?_; refine s_neqT rfl rfl (by omega) ?_) | (refine isCall ?_; refine s_lenI sl_ints rfl (by assumption) ?_)) | (refine isC ?_; first | refine c_sr ?_ | refine c_seq ?_ | refine c_ift rfl ?_ | refine c_ret ?_) | (first | refine l_th ?_ | refine th_ret ?_))
    exact ret1 rfl rfl ⟨vbool (decide_eq_false (fun h => hl (by rw [h]))).symm, Ex.refl _⟩

theorem ok_TwinInts : CallOK Tryz.prog 8 := callOK Tryz.func8 (by kernel_rfl) rfl
theorem ok_TwinIntLists : CallOK Tryz.prog 7 := callOK Tryz.func7 (by kernel_rfl) rfl
theorem take_map_succ {l : List Int} {k : Nat} (h : k < l.length) : (l.take (k + 1)).map (Value.int .i64) = (l.take k).map (Value.int .i64) ++ [.int .i64 (l.getD k 0)] := by
  rw [List.take_succ_eq_append_getElem h, List.map_append]; simp [h]
def updN (f : Nat → Nat) (i x : Nat) : Nat → Nat := fun j => if j = i then x else f j
end Go.Proofs.YtifbgpkjbciblaaGreatDoor.Sal
end
section
/- Plain: graphs by who may have what; graphs.edges as an iterator. -/
set_option maxRecDepth 100000
namespace Go.Proofs.YtifbgpkjbciblaaGreatDoor.Sal
open Go.RowKit
attribute [local irreducible] Go.Code.wpIn Go.wpListIn Ct Ints Rows Sl At Rw WJ
set_option linter.all false
/-! ### Graphs -/
def rowL (n : Nat) (p : Nat → Bool) : List Int := (rowN n p).map (fun k : Nat => (k : Int))
def gL (R : Nat → Nat → Bool) (m n : Nat) : List (List Int) := (List.range m).map fun i => rowL n (R i)
theorem gL_len (R : Nat → Nat → Bool) (m n : Nat) : (gL R m n).length = m := by simp [gL]
theorem gL_row {R : Nat → Nat → Bool} {m n i : Nat} (hi : i < m) : (gL R m n).getD i [] = rowL n (R i) := by simp [gL, hi]
theorem rowL_len (n : Nat) (p : Nat → Bool) : (rowL n p).length = (rowN n p).length := by simp [rowL]
theorem rowN_le (n : Nat) (p : Nat → Bool) : (rowN n p).length ≤ n := by
  have := List.length_filter_le p (List.range n)
  simpa [rowN] using this
theorem rowL_get (n : Nat) (p : Nat → Bool) {j : Nat} (h : j < (rowN n p).length) : (rowL n p).getD j 0 = (((rowN n p).getD j 0 : Nat) : Int) := by simp [rowL, h]
theorem rowN_get {n : Nat} {p : Nat → Bool} {j : Nat} (h : j < (rowN n p).length) : (rowN n p).getD j 0 < n ∧ p ((rowN n p).getD j 0) = true := by
  have : (rowN n p).getD j 0 ∈ rowN n p := by rw [List.getD_eq_getElem?_getD, List.getElem?_eq_getElem h]; exact List.getElem_mem h
  exact mem_rowN.1 this
theorem rowL_has (n : Nat) (p : Nat → Bool) (q : Int) : (rowL n p).contains q = true ↔ ∃ k : Nat, k < n ∧ p k = true ∧ q = (k : Int) := by
  simp only [rowL, List.contains_iff_mem, List.mem_map, mem_rowN]
  constructor
  · rintro ⟨k, ⟨h1, h2⟩, rfl⟩; exact ⟨k, h1, h2, rfl⟩
  · rintro ⟨k, h1, h2, rfl⟩; exact ⟨k, ⟨h1, h2⟩, rfl⟩
/-- A rising list is the one of its members. -/
theorem ris_mem : ∀ (l : List Int) (a m : Int), risB a l m = true → ∀ x ∈ l, a < x ∧ x < m
  | x :: l, a, m, h, y, hy => by
    simp only [risB, Bool.and_eq_true, Bool.not_eq_true', Bool.or_eq_false_iff, decide_eq_false_iff_not] at h
    rcases List.mem_cons.1 hy with rfl | hy
    · omega
    · have := ris_mem l x m h.2 y hy; omega
theorem ris_row (n : Nat) : ∀ (l : List Int) (c d : Nat), c + d = n → risB ((c : Int) - 1) l (n : Int) = true → l = (((List.range d).map (c + ·)).filter (fun k : Nat => l.contains (k : Int))).map (fun k : Nat => (k : Int))
  | l, c, 0, hcd, h => by
    cases l with
    | nil => rfl
    | cons x l =>
      have := ris_mem _ _ _ h x (by simp)
      omega
  | l, c, d + 1, hcd, h => by
    have e : (List.range (d + 1)).map (c + ·) = c :: (List.range d).map (c + 1 + ·) := by
      rw [List.range_succ_eq_map, List.map_cons, List.map_map]
      congr 1
      apply List.map_congr_left
      intro k _
      simp; omega
    rw [e]
    by_cases hc : l.contains (c : Int) = true
    · cases l with
      | nil => cases hc
      | cons x l =>
        have hx := ris_mem _ _ _ h x (by simp)
        have h' := h
        simp only [risB, Bool.and_eq_true, Bool.not_eq_true', Bool.or_eq_false_iff, decide_eq_false_iff_not] at h'
        have hxc : x = (c : Int) := by
          simp only [List.contains_iff_mem, List.mem_cons] at hc
          rcases hc with hc | hc
          · exact hc.symm
          · have := ris_mem _ _ _ h'.2 _ hc; omega
        subst hxc
        have hr : risB (((c + 1 : Nat) : Int) - 1) l (n : Int) = true := by
          have e2 : ((c + 1 : Nat) : Int) - 1 = (c : Int) := by omega
          rw [e2]; exact h'.2
        have ih := ris_row n l (c + 1) d (by omega) hr
        rw [List.filter_cons_of_pos (by exact hc), List.map_cons]
        congr 1
        rw [ih]
        congr 1
        rw [← ih]
        apply List.filter_congr
        intro k hk
        obtain ⟨j, _, rfl⟩ := List.mem_map.1 hk
        have : ¬ ((c + 1 + j : Nat) : Int) = (c : Int) := by omega
        simp only [List.contains_cons]
        have h9 : (((c + 1 + j : Nat) : Int) == (c : Int)) = false := by simpa using this
        rw [h9, Bool.false_or]
    · have hr : risB (((c + 1 : Nat) : Int) - 1) l (n : Int) = true := by
        cases l with
        | nil => rfl
        | cons x l =>
          have hx := ris_mem _ _ _ h x (by simp)
          have hne : x ≠ (c : Int) := fun e => hc (by simp [e])
          simp only [risB, Bool.and_eq_true, Bool.not_eq_true', Bool.or_eq_false_iff, decide_eq_false_iff_not] at h ⊢
          exact ⟨⟨by omega, h.1.2⟩, h.2⟩
      have ih := ris_row n l (c + 1) d (by omega) hr
      rw [List.filter_cons_of_neg (by exact hc)]
      exact ih
theorem ris_rowL {l : List Int} {n : Nat} (h : risB (-1) l (n : Int) = true) : l = rowL n (fun k => l.contains (k : Int)) := by
  have := ris_row n l 0 n (by omega) (by simpa using h)
  unfold rowL rowN
  have e : (List.range n).map (0 + ·) = List.range n := by simp
  rw [e] at this
  exact this
theorem chk_ok {R : Nat → Nat → Bool} {m n : Nat} (hm : m ≤ 8) (hn : n ≤ 8) : chkG (gL R m n) (n : Int) = true := by
  have key : ∀ (d c : Nat) (a : Int), a < (c : Int) → c + d = n → ∀ p : Nat → Bool, risB a (((List.range d).map (c + ·)).filter p |>.map (fun k : Nat => (k : Int))) (n : Int) = true := by
    intro d
    induction d with
    | zero => intro c a _ _ p; rfl
    | succ d ih =>
      intro c a ha hcd p
      have e : (List.range (d + 1)).map (c + ·) = c :: (List.range d).map (c + 1 + ·) := by
        rw [List.range_succ_eq_map, List.map_cons, List.map_map]
        congr 1
        apply List.map_congr_left
        intro k _
        simp; omega
      rw [e]
      by_cases hp : p c = true
      · rw [List.filter_cons_of_pos hp, List.map_cons]
        simp only [risB, Bool.and_eq_true, Bool.not_eq_true', Bool.or_eq_false_iff, decide_eq_false_iff_not]
        exact ⟨⟨by omega, by omega⟩, ih (c + 1) (c : Int) (by omega) (by omega) p⟩
      · rw [List.filter_cons_of_neg hp]
        exact ih (c + 1) a (by omega) (by omega) p
  unfold chkG
  simp only [Bool.and_eq_true, decide_eq_true_eq, gL_len]
  refine ⟨⟨⟨by omega, by omega⟩, by omega⟩, ?_⟩
  simp only [Bool.not_eq_true', List.any_eq_false, Bool.not_eq_true]
  intro l hl
  obtain ⟨i, _, rfl⟩ := List.mem_map.1 hl
  have := key n 0 (-1) (by omega) (by omega) (R i)
  have e : (List.range n).map (0 + ·) = List.range n := by simp
  rw [e] at this
  unfold rowL rowN
  rw [this]; simp
end Go.Proofs.YtifbgpkjbciblaaGreatDoor.Sal
end
section
/- graphs.edges as an iterator; SameIntLists, has, Fits. -/
set_option maxRecDepth 100000
namespace Go.Proofs.YtifbgpkjbciblaaGreatDoor.Sal
open Go.RowKit
attribute [local irreducible] Go.Code.wpIn Go.wpListIn Ct Ints Rows Sl At Rw WJ
set_option linter.all false
theorem ok_edges : CallOK Tryz.prog 96 := callOK Tryz.func96 (by kernel_rfl) rfl
theorem ok_edges1 : CallOK Tryz.prog 133 := callOK Tryz.func133 (by kernel_rfl) rfl
theorem ok_Fits : CallOK Tryz.prog 130 := callOK Tryz.func130 (by kernel_rfl) rfl
theorem any_has (l : List Int) (q : Int) (k : Nat) (hk : k < l.length) (hno : (l.take k).contains q = false) : (l.take (k + 1)).contains q = decide (l.getD k 0 = q) := by
  rw [List.take_succ_eq_append_getElem hk]
  have e : l.getD k 0 = l[k] := by simp [hk]
  rw [e]
  rw [Bool.eq_iff_iff]
  simp only [List.contains_iff_mem, List.mem_append, List.mem_singleton, decide_eq_true_eq]
  constructor
  · rintro (h | h)
    · rw [← List.contains_iff_mem, hno] at h; cases h
    · exact h.symm
  · intro h; exact .inr h.symm
/-! ### edges -/
abbrev PK (n : Nat) := { x : Nat × Nat // x.2 < n }
def prow (n i : Nat) (l : List Nat) : List (PK n) := l.filterMap (fun k => if h : k < n then some ⟨(i, k), h⟩ else none)
def prs (R : Nat → Nat → Bool) (n : Nat) : Nat → List (PK n)
  | 0 => []
  | i + 1 => prs R n i ++ prow n i (rowN n (R i))
def encP (n : Nat) (x : PK n) : Array Value := #[.int .i64 (x.1.1 : Int), .int .i64 (x.1.2 : Int)]
theorem prow_snoc {n i : Nat} (l : List Nat) {k : Nat} (h : k < n) : prow n i (l ++ [k]) = prow n i l ++ [⟨(i, k), h⟩] := by simp [prow, h]
theorem take_snocN' (l : List Nat) (k : Nat) (h : k < l.length) : l.take (k + 1) = l.take k ++ [l.getD k 0] := by
  rw [List.take_succ_eq_append_getElem h]; simp [h]
theorem prow_le (n i : Nat) (l : List Nat) : (prow n i l).length ≤ l.length := List.length_filterMap_le _ _
theorem prs_le (R : Nat → Nat → Bool) (n : Nat) : ∀ i, (prs R n i).length ≤ n * i
  | 0 => Nat.le_refl _
  | i + 1 => by
    have h1 := prs_le R n i
    have h2 := prow_le n i (rowN n (R i))
    have h3 := rowN_le n (R i)
    simp only [prs, List.length_append, Nat.mul_succ]
    omega
/-- What the iterator reads. -/
def ESrc (c : Nat) (gv : Value) (g : List (List Int)) (W : World) : Prop := W.cell? ⟨c, 0, none⟩ = some gv ∧ Rows W gv g
theorem ESrc.kc {c : Nat} {gv : Value} {g : List (List Int)} {w w' : World} (h : ESrc c gv g w) (hk : KC w w') : ESrc c gv g w' := ⟨hk.1 _ _ h.1, hk.rows h.2⟩
theorem edges_ct (gv : Value) (g : List (List Int)) (w : World) (hg : Rows w gv g) :
    Ct Tryz.prog 96 #[gv] w fun u w' => ∃ c, u = .func (.func 133) #[] #[.pointer (some ⟨c, 0, none⟩)] ∧ c = w.heap.size ∧ w'.heap.size = c + 1 ∧ ESrc c gv g w' ∧ Ex w w' := by
  obtain ⟨a, cc, hform⟩ := hg.form
  refine enter (N := 4) (vs := [gv]) Tryz.func96 rfl rfl rfl ?_
  repeat ((refine isC ?_; refine c_sr ?_))
  refine s_box (cs := [gv]) rfl (by rw [hform]; rfl) ?_
  intro c w1 hc hA hx hs
  repeat (first | (refine isO ?_; refine s_assign ?_) | (refine isC ?_; refine c_sr ?_) | (refine l_th ?_))
  refine s_mkfn (vs := [.pointer (some ⟨c, 0, none⟩)]) rfl ?_
  repeat (first | (refine isO ?_; refine s_assign ?_) | (refine isC ?_; refine c_ret ?_) | (refine l_th ?_))
  exact ret1 rfl rfl ⟨c, rfl, hc, hs, ⟨by rw [hA.cell]; rfl, hg.ex hx⟩, hx⟩
end Go.Proofs.YtifbgpkjbciblaaGreatDoor.Sal
end
section
/- graphs.edges$1: what it hands to yield. -/
set_option maxRecDepth 100000
namespace Go.Proofs.YtifbgpkjbciblaaGreatDoor.Sal
open Go.RowKit
attribute [local irreducible] Go.Code.wpIn Go.wpListIn Ct Ints Rows Sl At Rw WJ
set_option linter.all false
/-- What the iterator reads, the values of the rows told. -/
def ES (c : Nat) (gv : Value) (vs : List Value) (g : List (List Int)) (W : World) : Prop :=
  W.cell? ⟨c, 0, none⟩ = some gv ∧ Sl W gv vs ∧ vs.length = g.length ∧ ∀ (i : Nat) (u : Value) (l : List Int), vs[i]? = some u → g[i]? = some l → Ints W u l
theorem ES.kc {c : Nat} {gv : Value} {vs : List Value} {g : List (List Int)} {w w' : World} (h : ES c gv vs g w) (hk : KC w w') : ES c gv vs g w' :=
  ⟨hk.1 _ _ h.1, hk.sl h.2.1, h.2.2.1, fun i u l hu hl => hk.ints (h.2.2.2 i u l hu hl)⟩
theorem ES.of {c : Nat} {gv : Value} {vs : List Value} {g : List (List Int)} {w W : World} (hc : W.cell? ⟨c, 0, none⟩ = some gv) (hv : Sl w gv vs ∧ vs.length = g.length ∧ ∀ (i : Nat) (u : Value) (l : List Int), vs[i]? = some u → g[i]? = some l → Ints w u l) (hx : Ex w W) : ES c gv vs g W :=
  ⟨hc, hv.1.ex hx, hv.2.1, fun i u l hu hl => (hv.2.2 i u l hu hl).ex hx⟩
set_option maxHeartbeats 1000000 in
theorem edges_stops {R : Nat → Nat → Bool} {m n : Nat} (hm : m ≤ 8) (hn : n ≤ 8) {c : Nat} {gv : Value} {vs : List Value} {w : World} (hS : ES c gv vs (gL R m n) w) :
    SeqStopsK Fence.wide 0 Tryz.prog 133 [Value.pointer (some ⟨c, 0, none⟩)].toArray (encP n) (fun W W' => ES c gv vs (gL R m n) W → ES c gv vs (gL R m n) W') (fun ys => ys = prs R n m) (fun _ => True) 100 w := by
  intro l J Jx W hW hJ hJx hY h0
  have hS0 : ES c gv vs (gL R m n) W := hS.kc (KC.ex hW)
  have hgl := gL_len R m n
  have hvl : vs.length = m := by rw [hS.2.2.1, hgl]
  have key : Ct Tryz.prog 133 [Value.func (.yield l) #[] #[], .pointer (some ⟨c, 0, none⟩)].toArray W (fun _ W' => (∃ xs, xs = prs R n m ∧ J xs W') ∨ (∃ pre : List (PK n), True ∧ Jx pre W')) := by
    refine enter (N := 27) (vs := [.func (.yield l) #[] #[], .pointer (some ⟨c, 0, none⟩)]) Tryz.func133 rfl rfl rfl ?_
    have hc0 := hS0.1
    have hs0 := hS0.2.1
    repeat ((refine isC ?_; refine c_sr ?_))
    refine s_ld ty_rows rfl hc0 ?_
    refine s_lenS sl_rows rfl hs0 ?_
    refine s_re (v' := .int .i64 (m : Int)) (vint (by rw [hvl])) ?_
    repeat (first | (refine isO ?_; refine s_move ?_) | (refine isC ?_; refine c_block ?_) | (refine l_th ?_))
    refine c_loop (γ := Nat) 134217304 (fun i => [(9, .int .i64 (i : Int))]) (fun i w' => i ≤ m ∧ J (prs R n i) w' ∧ ES c gv vs (gL R m n) w') (fun i => m - i) 0 ⟨rfl, trivial⟩ ⟨Nat.zero_le _, h0, hS0⟩ ?_
    rintro i ρ w1 ⟨hi, hj1, hS1⟩
    have hs1 := hS1.2.1
    repeat (first | (refine isO ?_; (refine isBin ?_; refine s_lss rfl rfl ?_)) | (refine isC ?_; first | refine c_sr ?_ | refine c_seq ?_) | (refine l_th ?_))
    refine c_ifd rfl (fun h => ?_) (fun h => ?_)
    · have hi' : i < m := by omega
      refine Exists.elim (show ∃ u, vs[i]? = some u from ⟨vs[i]'(by omega), by simp [hvl, hi']⟩) fun u hu => ?_
      have hrl := rowL_len n (R i)
      have hrn := rowN_le n (R i)
      have hgi : (gL R m n)[i]? = some (rowL n (R i)) := by simp [gL, hi']
      have hI1 := hS1.2.2.2 i u _ hu hgi
      repeat (first | (refine isO ?_; refine s_move ?_) | (refine isC ?_; first | refine c_sr ?_ | refine c_th ?_ | refine c_seq ?_ | refine c_block ?_))
      refine s_ix sl_rows ty_ints rfl rfl rfl hs1 hu ?_
      intro pv
      repeat (first | (refine isO ?_; first | refine s_move ?_ | refine s_assign ?_ | (refine isCall ?_; refine s_lenI sl_ints rfl (by assumption) ?_)) | (refine isC ?_; first | refine c_sr ?_ | refine c_block ?_) | (refine l_th ?_))
      refine c_loop (γ := Nat) 67043392 (fun j => [(16, .int .i64 (j : Int))]) (fun j w' => j ≤ (rowN n (R i)).length ∧ J (prs R n i ++ prow n i ((rowN n (R i)).take j)) w' ∧ ES c gv vs (gL R m n) w') (fun j => (rowN n (R i)).length - j) 0 ⟨rfl, trivial⟩ ⟨Nat.zero_le _, by simpa [prow] using hj1, hS1⟩ ?_
      rintro j ρ2 w2 ⟨hj, hj2, hS2⟩
      have hI2 := hS2.2.2.2 i u _ hu hgi
      repeat (first | (refine isO ?_; (refine isBin ?_; refine s_lss rfl rfl ?_)) | (refine isC ?_; first | refine c_sr ?_ | refine c_seq ?_) | (refine l_th ?_))
      refine c_ifd rfl (fun h2 => ?_) (fun h2 => ?_)
      · have hj' : j < (rowN n (R i)).length := by omega
        have hkn := (rowN_get hj').1
        have hrg := rowL_get n (R i) hj'
        have hp1 := prs_le R n i
        have hp2 := prow_le n i ((rowN n (R i)).take j)
        have hmul : n * i ≤ 8 * 7 := Nat.mul_le_mul hn (by omega)
        have hlt : (prs R n i ++ prow n i ((rowN n (R i)).take j)).length < 100 := by
          rw [List.length_append]
          rw [List.length_take] at hp2
          omega
        have hYn := hY (prs R n i ++ prow n i ((rowN n (R i)).take j)) ⟨(i, (rowN n (R i)).getD j 0), hkn⟩ w2 hj2 hlt
        have hsn := prow_snoc (i := i) ((rowN n (R i)).take j) hkn
        have htk := take_snocN' (rowN n (R i)) j hj'
        have henc : encP n ⟨(i, (rowN n (R i)).getD j 0), hkn⟩ = [Value.int .i64 (i : Int), Value.int .i64 ((rowL n (R i)).getD j 0)].toArray := by
          unfold encP
          rw [hrg]
        rw [henc] at hYn
        repeat (first | (refine isO ?_; first | refine s_move ?_ | refine s_assign ?_ | (refine isIA ?_; refine s_ixI sl_ints ty_int rfl rfl rfl (by assumption) (by omega) ?_; intro _)) | (refine isC ?_; first | refine c_sr ?_ | refine c_th ?_ | refine c_seq ?_ | refine c_block ?_) | (refine l_th ?_))
        refine s_yield (vs := [.int .i64 (i : Int), .int .i64 ((rowL n (R i)).getD j 0)]) rfl rfl hYn ?_
        rintro e w3 (⟨rfl, hj3, hk3⟩ | ⟨rfl, hjx⟩)
        · refine ⟨_, rfl, ?_⟩
          have hS3 := hk3 hS2
          rw [List.append_assoc, ← hsn, ← htk] at hj3
          repeat (first | (refine isO ?_; first | refine s_move ?_ | (refine isBin ?_; refine s_inc rfl (by omega) ?_) | refine s_not rfl ?_) | (refine isC ?_; first | refine c_region ?_ | refine c_iff rfl ?_ | refine c_skip ?_) | (refine l_th ?_))
          exact loop_end (j + 1) (by (repeat (first | exact agree_refl _ _ | refine agree_upd rfl ?_ | refine agree_ext rfl ?_ | refine agree_mask rfl ?_))) ⟨rfl, trivial⟩ ⟨hj', hj3, hS3⟩ (by omega)
        · refine ⟨_, rfl, ?_⟩
          repeat (first | (refine isO ?_; refine s_not rfl ?_) | (refine isC ?_; first | refine c_ift rfl ?_ | refine c_ret ?_) | (first | refine l_th ?_ | refine th_ret ?_ | refine ib_ret ?_))
          exact ret0 rfl (.inr ⟨_, trivial, hjx⟩)
      · have hje : (rowN n (R i)).take j = rowN n (R i) := List.take_of_length_le (by omega)
        rw [hje] at hj2
        repeat (first | (refine isO ?_; first | refine s_move ?_ | (refine isBin ?_; refine s_inc rfl (by omega) ?_)) | (refine isC ?_; first | refine c_region ?_ | refine c_exit ?_) | (refine l_th ?_))
        exact loop_end (i + 1) (by (repeat (first | exact agree_refl _ _ | refine agree_upd rfl ?_ | refine agree_ext rfl ?_ | refine agree_mask rfl ?_))) ⟨rfl, trivial⟩ ⟨hi', hj2, hS2⟩ (by omega)
    · have hie : i = m := by omega
      subst hie
      repeat (first | (refine isC ?_; refine c_exit ?_) | (first | refine ib_exit ?_ | refine th_exit ?_))
      exact end0 rfl (.inl ⟨_, rfl, hj1⟩)
  have e0 : (#[Value.func (.yield l) #[] #[]] ++ [Value.pointer (some ⟨c, 0, none⟩)].toArray : Array Value) = [Value.func (.yield l) #[] #[], .pointer (some ⟨c, 0, none⟩)].toArray := by simp
  rw [e0]
  refine CallsIn.mono key.callsIn ?_
  rintro e W' ⟨v, rfl, h⟩
  exact ⟨⟨v, rfl⟩, h⟩
end Go.Proofs.YtifbgpkjbciblaaGreatDoor.Sal
end
section
/- slices.Clip; graphs.Near. -/
set_option maxRecDepth 100000
namespace Go.Proofs.YtifbgpkjbciblaaGreatDoor.Sal
open Go.RowKit
attribute [local irreducible] Go.Code.wpIn Go.wpListIn Ct Ints Rows Sl At Rw WJ
set_option linter.all false
theorem ok_Near : CallOK Tryz.prog 38 := callOK Tryz.func38 (by kernel_rfl) rfl
theorem Clip_ct (v : Value) (l : List Int) (w : World) (hl : Ints w v l) :
    Ct Tryz.prog 35 #[v] w fun u w' => (∃ a c, v = .slice a l.length c ∧ u = .slice a l.length l.length) ∧ Ints w' u l ∧ Ex w w' := by
  have hlen := hl.len
  obtain ⟨hm, a, n, c, hv, hn, hnc, hc⟩ := Ints.parts hl
  subst hv
  have hn' : l.length = n := by simpa using hn
  subst hn'
  refine enter (N := 9) (vs := [.slice a l.length c]) Tryz.func35 rfl rfl rfl ?_
  repeat (first | (refine isO ?_; first | refine s_move ?_ | refine s_assign ?_ | (refine isCall ?_; refine s_lenI sl_ints rfl (by assumption) ?_)) | (refine isC ?_; refine c_sr ?_) | (refine l_th ?_))
  refine s_clip sl_ints ty_int rfl rfl rfl hnc ?_
  repeat (first | (refine isO ?_; refine s_assign ?_) | (refine isC ?_; refine c_ret ?_) | (refine l_th ?_))
  exact ret1 rfl rfl ⟨⟨a, c, rfl, rfl⟩, Ints.of_parts hm hn hc, Ex.refl _⟩
theorem in_a8 : ∃ ti, Tryz.prog.info? 95 = some ti ∧ ti.zero = some (.agg (List.replicate 8 (Value.int .i64 0)).toArray) := by
  have h : (Tryz.prog.info? 95).map (·.zero) = some (some (.agg (List.replicate 8 (Value.int .i64 0)).toArray)) := by kernel_rfl
  cases hi : Tryz.prog.info? 95 with
  | none => rw [hi] at h; cases h
  | some ti => rw [hi] at h; exact ⟨ti, rfl, by simpa using h⟩
theorem u_a8 : Tryz.prog.underlying 95 = some (.array 8 3) := Tryz.underlying95
theorem sz_a8 : (Tryz.prog.info? 95).map (·.size) = some 8 := by kernel_rfl
def tb8 (f : Nat → Int) : List Value := (List.range 8).map (fun x => Value.int .i64 (f x))
theorem tb8_len (f : Nat → Int) : (tb8 f).length = 8 := by simp [tb8]
theorem tb8_get (f : Nat → Int) {x : Nat} (h : x < 8) : (tb8 f)[x]? = some (.int .i64 (f x)) := by simp [tb8, h]
theorem tb8_set (f : Nat → Int) {x : Nat} (y : Int) (h : x < 8) : (tb8 f).set x (.int .i64 y) = tb8 (fset f x y) := by
  apply List.ext_getElem?
  intro i
  rw [List.getElem?_set]
  simp only [tb8, List.length_map, List.length_range]
  by_cases hi : x = i
  · subst hi; simp [h, fset]
  · have : ¬ i = x := fun e => hi e.symm
    simp [hi, fset, this]
    by_cases h8 : i < 8 <;> simp [h8, this]
theorem tb8_zero : List.replicate 8 (Value.int .i64 0) = tb8 (fun _ => 0) := rfl
/-- What is near to some, of the pairs that came. -/
def nearF (some : List Int) {n : Nat} (pre : List (PK n)) (k : Nat) : Int := if pre.any (fun x => x.1.2 == k && some.contains (x.1.1 : Int)) = true then 1 else 0
theorem nearF_snoc (some : List Int) {n : Nat} (pre : List (PK n)) (x : PK n) : nearF some (pre ++ [x]) = if some.contains (x.1.1 : Int) = true then fset (nearF some pre) x.1.2 1 else nearF some pre := by
  funext k
  have e1 : ([x].any fun y => y.1.2 == k && some.contains (y.1.1 : Int)) = (x.1.2 == k && some.contains (x.1.1 : Int)) := by simp only [List.any_cons, List.any_nil, Bool.or_false]
  unfold nearF
  rw [List.any_append, e1]
  cases h : some.contains (x.1.1 : Int) with
  | true =>
    rw [if_pos rfl]
    unfold fset
    by_cases e : k = x.1.2
    · have e2 : (x.1.2 == k) = true := by simpa using e.symm
      simp only [e2, Bool.and_true, Bool.or_true, if_true]
      rw [if_pos e]
    · have e2 : (x.1.2 == k) = false := by simpa using fun hh => e hh.symm
      simp only [e2, Bool.false_and, Bool.or_false]
      rw [if_neg e]
  | false =>
    rw [if_neg Bool.false_ne_true]
    simp only [Bool.and_false, Bool.or_false]
theorem mem_prow {n i : Nat} {l : List Nat} {x : PK n} : x ∈ prow n i l ↔ x.1.1 = i ∧ x.1.2 ∈ l := by
  unfold prow
  rw [List.mem_filterMap]
  constructor
  · rintro ⟨k, hk, he⟩
    split at he
    · cases he; exact ⟨rfl, hk⟩
    · cases he
  · rintro ⟨rfl, hk⟩
    exact ⟨x.1.2, hk, by rw [dif_pos x.2]⟩
theorem mem_prs {R : Nat → Nat → Bool} {n : Nat} {x : PK n} : ∀ {m : Nat}, x ∈ prs R n m ↔ x.1.1 < m ∧ R x.1.1 x.1.2 = true
  | 0 => by simp [prs]
  | m + 1 => by
    rw [prs, List.mem_append, mem_prs, mem_prow, mem_rowN]
    constructor
    · rintro (⟨h1, h2⟩ | ⟨rfl, h1, h2⟩)
      · exact ⟨by omega, h2⟩
      · exact ⟨by omega, h2⟩
    · rintro ⟨h1, h2⟩
      by_cases e : x.1.1 = m
      · exact .inr ⟨e, x.2, e ▸ h2⟩
      · exact .inl ⟨by omega, h2⟩
def nearP (R : Nat → Nat → Bool) (m : Nat) (some : List Int) (k : Nat) : Bool := (List.range m).any (fun i => some.contains (i : Int) && R i k)
theorem nearF_all {R : Nat → Nat → Bool} {m n : Nat} (some : List Int) {k : Nat} (hk : k < n) : nearF some (prs R n m) k = if nearP R m some k = true then 1 else 0 := by
  unfold nearF
  have : ((prs R n m).any (fun x => x.1.2 == k && some.contains (x.1.1 : Int))) = nearP R m some k := by
    rw [Bool.eq_iff_iff]
    unfold nearP
    simp only [List.any_eq_true, Bool.and_eq_true, beq_iff_eq, List.mem_range]
    constructor
    · rintro ⟨x, hx, h1, h2⟩
      rw [mem_prs] at hx
      exact ⟨x.1.1, hx.1, h2, h1 ▸ hx.2⟩
    · rintro ⟨i, hi, h1, h2⟩
      exact ⟨⟨(i, k), hk⟩, mem_prs.2 ⟨hi, h2⟩, rfl, h1⟩
  rw [this]
theorem nearF_big (some : List Int) {n : Nat} (pre : List (PK n)) {k : Nat} (hk : n ≤ k) : nearF some pre k = 0 := by
  unfold nearF
  rw [if_neg]
  simp only [List.any_eq_true, Bool.and_eq_true, beq_iff_eq, not_exists, not_and]
  intro x hx h1
  have := x.2
  omega
theorem rowL_step (n : Nat) (p : Nat → Bool) : rowL (n + 1) p = rowL n p ++ (if p n = true then [(n : Int)] else []) := by
  unfold rowL rowN
  rw [List.range_succ, List.filter_append, List.map_append]
  congr 1
  by_cases h : p n = true <;> simp [h]
set_option maxHeartbeats 2000000 in
theorem Near_ok {R : Nat → Nat → Bool} {m n : Nat} (hm : m ≤ 8) (hn : n ≤ 8) (gv : Value) (sv' : Value) (sl : List Int) (w : World) (hg : Rows w gv (gL R m n)) (hs : Ints w sv' sl) (hb : risB (-1) sl (m : Int) = true) :
    Ct Tryz.prog 38 #[gv, .int .i64 (n : Int), sv'] w fun u w' => ∃ v a, u = .tuple #[v, .int .i64 0] ∧ v = .slice a (rowL n (nearP R m sl)).length (rowL n (nearP R m sl)).length ∧ (∀ b, v.ownBlock = some b → w.heap.size ≤ b) ∧ Ints w' v (rowL n (nearP R m sl)) ∧ Ex w w' := by
  obtain ⟨a, c, hform⟩ := hs.form
  have hgl := gL_len R m n
  have hchk := chk_ok (R := R) hm hn
  refine Exists.elim in_a8 fun ti hti => ?_
  refine Exists.elim hg.parts fun vs hvs => ?_
  refine enter (N := 47) (vs := [gv, .int .i64 (n : Int), sv']) Tryz.func38 rfl rfl rfl ?_
  repeat ((refine isC ?_; refine c_sr ?_))
  refine s_box (cs := [sv']) rfl (by rw [hform]; rfl) ?_
  intro b5 w1 hb5 hA5 hx1 hs1
  have hg1 := hg.ex hx1
  repeat (first | (refine isO ?_; first | refine s_move ?_ | refine s_assign ?_) | (refine isC ?_; first | refine c_sr ?_ | refine c_seq ?_) | (refine l_th ?_))
  refine s_call ok_Check rfl (Check_ct gv (gL R m n) n w1 hg1) ?_
  rintro v w2 ⟨rfl, hx2⟩
  refine s_re (v' := .bool true) (vbool hchk) ?_
  have hx02 := hx1.trans hx2
  have hg2 := hg.ex hx02
  have hA52 := hA5.ex hx2
  repeat ((refine isO ?_; first | refine s_move ?_ | (refine isG ?_; refine g_yes rfl rfl ?_) | (refine isCall ?_; refine s_lenR sl_rows rfl (by assumption) ?_) | (refine isLD ?_; refine s_ldA ty_ints rfl (by assumption) rfl ?_) | refine s_not rfl ?_))
  refine s_call ok_rises rfl (rises_ct sv' sl ((gL R m n).length : Int) w2 (hs.ex hx02)) ?_
  rintro v w3 ⟨rfl, hx3⟩
  refine s_re (v' := .bool true) (vbool (by rw [hgl]; exact hb)) ?_
  have hx03 := hx02.trans hx3
  repeat (first | (refine isO ?_; first | (refine isG ?_; refine g_yes rfl rfl ?_) | (refine isPick ?_; refine s_pickf rfl rfl ?_) | refine s_not rfl ?_) | (refine isC ?_; first | refine c_sr ?_ | refine c_th ?_ | refine c_iff rfl ?_) | (refine l_th ?_))
  refine s_alloc (cs := List.replicate 8 (Value.int .i64 0)) hti.1 hti.2 rfl ?_
  intro b8 w4 hb8 hA8 hx4 hs4
  rw [tb8_zero] at hA8
  have hx04 := hx03.trans hx4
  repeat (first | (refine isO ?_; refine s_move ?_) | (refine isC ?_; first | refine c_sr ?_ | refine c_seq ?_) | (refine l_th ?_))
  refine s_call ok_edges rfl (edges_ct gv (gL R m n) w4 (hg.ex hx04)) ?_
  rintro v w5 ⟨ce, rfl, hce, hs5, hES, hx5⟩
  have hx05 := hx04.trans hx5
  have hE5 := ES.of hES.1 hvs hx05
  have hA55 := hA5.ex ((hx2.trans hx3).trans (hx4.trans hx5))
  have hA85 := hA8.ex hx5
  have hlt5 := hA5.lt
  have hlt8 := hA8.lt
  have z1 := hx1.size
  have z2 := hx2.size
  have z3 := hx3.size
  have z4 := hx4.size
  have z5 := hx5.size
  repeat (first | (refine isC ?_; refine c_block ?_) | (refine l_th ?_))
  refine c_range (gf := 133) (lb := [.pointer (some ⟨ce, 0, none⟩)]) rfl ok_edges1 (edges_stops hm hn hE5) (fun h k => fun hh => k (h hh)) (fun W l o o' _ hl hc _ hh => hh.kc (KC.put hl hc)) (fun W h => h) (Ex.refl _) (fun _ => rfl)
    (fun pre W => (ES ce gv vs (gL R m n) W ∧ At W b5 25 [sv'] ∧ At W b8 95 (tb8 (nearF sl pre))) ∧ Ex w W)
    (OwnFrom.and (Own.from (fun pre A B row hs hg hr => ⟨hs.1.kc (KC.turn hg hr), At.own (fun _ : Unit => [sv']) () A B row hs.2.1 hg hr, At.own (fun pre => tb8 (nearF sl pre)) pre A B row hs.2.2 hg hr⟩) _) (ownFrom_below (Nat.le_refl _) (by omega)))
    ⟨⟨hE5, hA55, hA85⟩, hx05⟩
    (fun x σ => upd (upd (updl [(26, .int .i64 (x.1.1 : Int)), (27, .int .i64 (x.1.2 : Int))] σ) 9 (.int .i64 (x.1.1 : Int))) 10 (.int .i64 (x.1.2 : Int))) ?_ ?_ ?_
  · intro l x W K hK
    repeat (first | (refine isO ?_; refine s_assign ?_) | (refine isC ?_; first | refine c_sr ?_ | refine c_region ?_) | (refine l_th ?_))
    exact hK
  · rintro l pre x W ⟨⟨hE, hA5w, hA8w⟩, hxw⟩ hlt
    have hk8 : x.1.2 < 8 := by have := x.2; omega
    have hsn := nearF_snoc sl pre x
    repeat (first | (refine isO ?_; first | refine s_move ?_ | (refine isLD ?_; refine s_ldA ty_ints rfl (by assumption) rfl ?_)) | (refine isC ?_; first | refine c_sr ?_ | refine c_block ?_))
    refine s_call ok_Contains rfl (Contains_ct sv' sl (x.1.1 : Int) W (hs.ex hxw)) ?_
    rintro v W2 ⟨rfl, hx2w⟩
    have hA5x := hA5w.ex hx2w
    have hA8x := hA8w.ex hx2w
    have hEx := hE.kc (KC.ex hx2w)
    cases hcn : sl.contains (x.1.1 : Int) with
    | false =>
      rw [hcn, if_neg Bool.false_ne_true] at hsn
      repeat (first | (refine isC ?_; first | refine c_iff rfl ?_ | refine c_skip ?_) | (first | refine l_th ?_ | refine ib_norm ?_))
      refine own_norm (KeepsFrom.ex hx2w) (fun _ => hEx) ⟨⟨hEx, hA5x, ?_⟩, hxw.trans hx2w⟩
      rw [hsn]; exact hA8x
    | true =>
      rw [hcn, if_pos rfl] at hsn
      repeat (first | (refine isO ?_; refine s_move ?_) | (refine isC ?_; first | refine c_region ?_ | refine c_ift rfl ?_) | (refine l_th ?_))
      refine s_iaV (n := x.1.2) u_a8 ty_int rfl rfl hk8 ?_
      refine s_stA (n := x.1.2) (u := .int .i64 1) ty_int rfl rfl rfl hA8x (by rw [tb8_len]; exact hk8) ?_
      intro W3 hA8y hgy
      rw [tb8_set _ _ hk8, ← hsn] at hA8y
      have hx3w : Ex w W3 := (hxw.trans hx2w).store hgy (by omega)
      have hE3 := ES.of (cell_gr hEx.1 hgy (show ce ≠ b8 by omega)) hvs hx3w
      have hA5y := hA5x.grown hgy (fun e => by cases e; omega)
      repeat ((first | refine ib_norm ?_ | refine l_nil ?_))
      exact own_norm ((KeepsFrom.ex hx2w).trans (KeepsFrom.of_grownBy hgy (fun j e => by cases e; omega))) (fun _ => hE3) ⟨⟨hE3, hA5y, hA8y⟩, hx3w⟩
  · rintro D xs W hD hxs ⟨⟨hE, hA5w, hA8w⟩, hxw⟩ hK
    subst hxs
    have hwD : w.heap.size ≤ D := by omega
    repeat ((refine isC ?_; first | refine c_sr ?_ | refine c_seq ?_))
    refine s_ldV u_a8 rfl (by rw [tb8_len]; exact sz_a8) rfl hA8w ?_
    repeat (first | (refine isO ?_; refine s_move ?_) | (refine isC ?_; refine c_block ?_) | (refine l_th ?_))
    refine c_loop2 35167192225856 (fun (k : Nat) (v : Value) => [(34, .int .i64 (k : Int)), (6, v)]) (fun k v w' => k ≤ 8 ∧ LI W w' 3 v (rowL (min k n) (nearP R m sl)) ∧ Ex W w') (fun k _ => 8 - k) 0 (.slice none 0 0) ⟨rfl, rfl, trivial⟩ ⟨Nat.zero_le _, by rw [Nat.zero_min]; exact LI.nil _ _ _, Ex.refl _⟩ ?_
    rintro k v6 ρ W1 ⟨hk, hL1, hxW1⟩
    have hrl := rowL_len (min k n) (nearP R m sl)
    have hrn := rowN_le (min k n) (nearP R m sl)
    repeat (first | (refine isO ?_; (refine isBin ?_; refine s_lss rfl rfl ?_)) | (refine isC ?_; first | refine c_sr ?_ | refine c_seq ?_) | (refine l_th ?_))
    refine c_ifd rfl (fun h => ?_) (fun h => ?_)
    · have hk8 : k < 8 := by omega
      repeat (first | (refine isO ?_; refine s_move ?_) | (refine isC ?_; first | refine c_sr ?_ | refine c_th ?_ | refine c_seq ?_ | refine c_block ?_))
      refine s_idxV (n := k) u_a8 ty_int rfl rfl hk8 (tb8_get _ hk8) ?_
      by_cases hkn : k < n
      · have hfa := nearF_all (R := R) (m := m) sl hkn
        have hst := rowL_step k (nearP R m sl)
        have hm1 : min k n = k := by omega
        have hm2 : min (k + 1) n = k + 1 := by omega
        by_cases hp : nearP R m sl k = true
        · rw [if_pos hp] at hfa hst
          repeat (first | (refine isO ?_; first | refine s_move ?_ | refine s_assign ?_ | (refine isBin ?_; refine s_eqlT rfl rfl (by omega) ?_)) | (refine isC ?_; first | refine c_sr ?_ | refine c_region ?_ | refine c_ift rfl ?_) | (refine l_th ?_))
          refine s_li sl_ints in_int rfl hL1 rfl rfl (fun _ => rfl) (by omega) hxW1 ?_
          intro v' W2 sl' hL2 hxW2
          rw [hm1, ← hst] at hL2
          repeat (first | (refine isO ?_; first | refine s_move ?_ | refine s_assign ?_ | (refine isBin ?_; refine s_inc rfl (by omega) ?_)) | (refine isC ?_; refine c_region ?_) | (first | refine l_th ?_ | refine l_nil ?_))
          exact loop_end2 (k + 1) v' (by (repeat (first | exact agree_refl _ _ | refine agree_upd rfl ?_ | refine agree_ext rfl ?_ | refine agree_mask rfl ?_))) ⟨rfl, rfl, trivial⟩ ⟨by omega, by rw [hm2]; exact hL2, hxW2⟩ (by omega)
        · rw [if_neg hp] at hfa hst
          rw [List.append_nil] at hst
          rw [hm1, ← hst] at hL1
          repeat (first | (refine isO ?_; first | refine s_move ?_ | refine s_assign ?_ | (refine isBin ?_; first | refine s_inc rfl (by omega) ?_ | refine s_eqlF rfl rfl (by omega) ?_)) | (refine isC ?_; first | refine c_sr ?_ | refine c_region ?_ | refine c_iff rfl ?_ | refine c_skip ?_) | (refine l_th ?_))
          exact loop_end2 (k + 1) v6 (by (repeat (first | exact agree_refl _ _ | refine agree_upd rfl ?_ | refine agree_ext rfl ?_ | refine agree_mask rfl ?_))) ⟨rfl, rfl, trivial⟩ ⟨by omega, by rw [hm2]; exact hL1, hxW1⟩ (by omega)
      · have hfb := nearF_big sl (prs R n m) (show n ≤ k by omega)
        have hm1 : min k n = min (k + 1) n := by omega
        rw [hm1] at hL1
        repeat (first | (refine isO ?_; first | refine s_move ?_ | refine s_assign ?_ | (refine isBin ?_; first | refine s_inc rfl (by omega) ?_ | refine s_eqlF rfl rfl (by omega) ?_)) | (refine isC ?_; first | refine c_sr ?_ | refine c_region ?_ | refine c_iff rfl ?_ | refine c_skip ?_) | (refine l_th ?_))
        exact loop_end2 (k + 1) v6 (by (repeat (first | exact agree_refl _ _ | refine agree_upd rfl ?_ | refine agree_ext rfl ?_ | refine agree_mask rfl ?_))) ⟨rfl, rfl, trivial⟩ ⟨by omega, hL1, hxW1⟩ (by omega)
    · have hm1 : min k n = n := by omega
      rw [hm1] at hL1 hrl hrn
      have hI1 := hL1.ints (by omega)
      have hK1 := mark_ex hK hxW1
      repeat (first | (refine isO ?_; refine s_move ?_) | (refine isC ?_; first | refine c_sr ?_ | refine c_exit ?_))
      refine s_call ok_Clip rfl (Clip_ct v6 _ W1 hI1) ?_
      rintro u W2 ⟨⟨a', c', hv6, rfl⟩, hI2, hxW2⟩
      have hK2 := mark_ex hK1 hxW2
      repeat (first | (refine isO ?_; refine s_assign ?_) | (refine isC ?_; refine c_ret ?_) | (refine l_th ?_))
      refine ret2m rfl rfl rfl hK2 ⟨_, a', rfl, rfl, fun b hb => ?_, (mark_kc hK2).ints hI2, mark_out (hxw.trans (hxW1.trans hxW2)) hwD⟩
      have h9 := hL1.2 b (by rw [hv6]; cases a' <;> exact hb)
      have := hxw.size
      omega
end Go.Proofs.YtifbgpkjbciblaaGreatDoor.Sal
end
section
/- vectors.within, vectors.Check; markets.ordered, markets.Check. -/
set_option maxRecDepth 100000
namespace Go.Proofs.YtifbgpkjbciblaaGreatDoor.Sal
open Go.RowKit
def inM (most n : Int) : Bool := decide (0 ≤ n) && decide (n ≤ most)
def vecB (bid : List Int) (items : Int) : Bool := inM 7 (items - 1) && decide ((bid.length : Int) = items) && bid.all (inM 1000000)
def badBid (items : Int) (bid : List Int) : Bool := decide (0 < bid.length) && !vecB bid items
def ordB (l : List Int) (many : Nat) : Bool := (l.all fun n => decide (0 ≤ n) && decide (n < (many : Int))) && decide ((List.range 8).map (fun k : Nat => ((l.count (k : Int) : Nat) : Int)) = (List.range 8).map (fun k : Nat => if k < many then (1 : Int) else 0))
def chkM (res : List Int) (bids : List (List Int)) (ord : List Int) : Bool := vecB res res.length && decide (1 ≤ bids.length) && decide (bids.length ≤ 8) && ordB ord bids.length && !(bids.any (badBid res.length))
theorem all_take_step (l : List Int) (p : Int → Bool) (k : Nat) (hk : k < l.length) : (l.take (k + 1)).all p = ((l.take k).all p && p (l.getD k 0)) := by
  rw [List.take_succ_eq_append_getElem hk, List.all_append]; simp [hk]
theorem all_false_of {l : List Int} {p : Int → Bool} {k : Nat} (hk : k < l.length) (h : p (l.getD k 0) = false) : l.all p = false := by
  rw [List.all_eq_false]
  refine ⟨l.getD k 0, ?_, by rw [h]; simp⟩
  rw [List.getD_eq_getElem?_getD, List.getElem?_eq_getElem hk]
  exact List.getElem_mem hk
theorem tfV (b : Bool) : b = true ∨ b = false := by cases b <;> simp
attribute [local irreducible] Go.Code.wpIn Go.wpListIn Ct Ints Rows Sl At Rw WJ
set_option linter.all false
theorem ok_within' : CallOK Tryz.prog 141 := callOK Tryz.func141 (by kernel_rfl) rfl
theorem ok_vcheck : CallOK Tryz.prog 123 := callOK Tryz.func123 (by kernel_rfl) rfl
theorem ok_ordered : CallOK Tryz.prog 124 := callOK Tryz.func124 (by kernel_rfl) rfl
theorem ok_mcheck : CallOK Tryz.prog 86 := callOK Tryz.func86 (by kernel_rfl) rfl
theorem ok_mcheck1 : CallOK Tryz.prog 125 := callOK Tryz.func125 (by kernel_rfl) rfl
theorem vwithin_ct (most : Int) (v : Value) (l : List Int) (w : World) (hl : Ints w v l) :
    Ct Tryz.prog 141 #[.int .i64 most, v] w fun u w' => u = .bool (l.all (inM most)) ∧ Ex w w' := by
  have hlen := hl.len
  refine enter (N := 27) (vs := [.int .i64 most, v]) Tryz.func141 rfl rfl rfl ?_
  repeat (first | (refine isO ?_; refine s_assign ?_) | (refine isC ?_; refine c_sr ?_) | (refine l_th ?_))
  refine c_scope _ 0 rfl ?_
  repeat (first | (refine isO ?_; first | refine s_move ?_ | refine s_assign ?_ | (refine isCall ?_; refine s_lenI sl_ints rfl (by assumption) ?_)) | (refine isC ?_; first | refine c_sr ?_ | refine c_seq ?_) | (refine l_th ?_))
  refine c_label ?_
  repeat (first | (refine isO ?_; first | refine s_move ?_ | (refine isCall ?_; refine s_lenI sl_ints rfl (by assumption) ?_)) | (refine isC ?_; first | refine c_sr ?_ | refine c_seq ?_ | refine c_block ?_) | (refine l_th ?_))
  refine c_loop (γ := Nat) 33550496 (fun k => [(12, .int .i64 (k : Int)), (5, .int .i64 ((l.length - k : Nat) : Int))]) (fun k W => k ≤ l.length ∧ (l.take k).all (inM most) = true ∧ Ex w W) (fun k => l.length - k) 0 ⟨rfl, vint (by simp), trivial⟩ ⟨Nat.zero_le _, rfl, Ex.refl _⟩ ?_
  rintro k ρ W ⟨hk, hall, hx⟩
  have hlW := hl.ex hx
  repeat (first | (refine isO ?_; (refine isBin ?_; refine s_lss rfl rfl ?_)) | (refine isC ?_; first | refine c_sr ?_ | refine c_seq ?_) | (refine l_th ?_))
  refine c_ifd rfl (fun h => ?_) (fun h => ?_)
  · have hk' : k < l.length := by omega
    have hst := all_take_step l (inM most) k hk'
    by_cases h1 : l.getD k 0 < 0
    · have hbad := all_false_of (p := inM most) hk' (by unfold inM; rw [decide_eq_false (by omega)]; rfl)
      repeat (first | (refine isO ?_; first | refine s_move ?_ | refine s_assign ?_ | (refine isBin ?_; first | refine s_lssT rfl rfl (by omega) ?_ | refine s_eqlF rfl rfl (by omega) ?_) | (refine isIA ?_; refine s_ixI sl_ints ty_int rfl rfl rfl (by assumption) (by omega) ?_; intro _)) | (refine isC ?_; first | refine c_sr ?_ | refine c_th ?_ | refine c_seq ?_ | refine c_ift rfl ?_ | refine c_block ?_ | refine c_ret ?_ | refine c_exit ?_) | (refine l_th ?_))
      refine sc_ret ?_
      exact ret1 rfl rfl ⟨vbool hbad.symm, hx⟩
    · by_cases h2 : most < l.getD k 0
      · have hbad := all_false_of (p := inM most) hk' (by unfold inM; rw [decide_eq_false (show ¬ l.getD k 0 ≤ most by omega), Bool.and_false])
        repeat (first | (refine isO ?_; first | refine s_move ?_ | refine s_assign ?_ | (refine isBin ?_; first | refine s_lssF rfl rfl (by omega) ?_ | refine s_eqlF rfl rfl (by omega) ?_ | refine s_gtrT rfl rfl (by omega) ?_) | (refine isIA ?_; refine s_ixI sl_ints ty_int rfl rfl rfl (by assumption) (by omega) ?_; intro _)) | (refine isC ?_; first | refine c_sr ?_ | refine c_th ?_ | refine c_seq ?_ | refine c_region ?_ | refine c_ift rfl ?_ | refine c_iff rfl ?_ | refine c_block ?_ | refine c_ret ?_ | refine c_exit ?_) | (refine l_th ?_))
        refine sc_ret ?_
        exact ret1 rfl rfl ⟨vbool hbad.symm, hx⟩
      · have hgood : inM most (l.getD k 0) = true := by unfold inM; rw [decide_eq_true (by omega), decide_eq_true (by omega)]; rfl
        rw [hall, hgood] at hst
        repeat (first | (refine isO ?_; first | refine s_move ?_ | refine s_assign ?_ | (refine isBin ?_; first | refine s_inc rfl (by omega) ?_ | refine s_lssF rfl rfl (by omega) ?_ | refine s_gtrF rfl rfl (by omega) ?_ | refine s_sub rfl rfl ⟨by omega, by omega⟩ ?_) | (refine isIA ?_; refine s_ixI sl_ints ty_int rfl rfl rfl (by assumption) (by omega) ?_; intro _)) | (refine isC ?_; first | refine c_sr ?_ | refine c_th ?_ | refine c_seq ?_ | refine c_region ?_ | refine c_iff rfl ?_ | refine c_block ?_ | refine c_skip ?_) | (first | refine l_th ?_ | refine l_nil ?_))
        exact loop_end (k + 1) (by (repeat (first | exact agree_refl _ _ | refine agree_upd rfl ?_ | refine agree_ext rfl ?_ | refine agree_mask rfl ?_))) ⟨rfl, vint (by omega), trivial⟩ ⟨hk', hst, hx⟩ (by omega)
  · rw [List.take_of_length_le (by omega)] at hall
    repeat (first | (refine isO ?_; first | refine s_move ?_ | refine s_assign ?_ | (refine isBin ?_; refine s_eqlT rfl rfl (by omega) ?_)) | (refine isC ?_; first | refine c_sr ?_ | refine c_ret ?_ | refine c_exit ?_) | (refine l_th ?_))
    refine sc_ret ?_
    exact ret1 rfl rfl ⟨vbool hall.symm, hx⟩
theorem vcheck_ct (v : Value) (bid : List Int) (items : Int) (w : World) (hl : Ints w v bid) (hi : In64 (items - 1)) :
    Ct Tryz.prog 123 #[v, .int .i64 items] w fun u w' => u = .bool (vecB bid items) ∧ Ex w w' := by
  refine enter (N := 19) (vs := [v, .int .i64 items]) Tryz.func123 rfl rfl rfl ?_
  repeat (first | (refine isO ?_; first | refine s_move ?_ | refine s_assign ?_) | (refine isC ?_; refine c_sr ?_) | (refine l_th ?_))
  refine s_sub rfl rfl hi ?_
  refine s_bs1 sl_ints in_int rfl rfl ?_
  intro b1 w1 hb1 hA1 hx1 hs1
  refine s_call ok_within' rfl (vwithin_ct 7 (sv b1 1 1) [items - 1] w1 hA1.one) ?_
  rintro u w2 ⟨rfl, hx2⟩
  have hx02 := hx1.trans hx2
  have hl2 := hl.ex hx02
  have e1 : [items - 1].all (inM 7) = inM 7 (items - 1) := by simp
  refine Or.elim (tfV (inM 7 (items - 1))) (fun hb => ?_) (fun hb => ?_)
  · refine s_re (v' := .bool true) (vbool (e1.trans hb)) ?_
    by_cases h1 : (bid.length : Int) = items
    · repeat ((refine isO ?_; first | refine s_move ?_ | (refine isG ?_; refine g_yes rfl rfl ?_) | (refine isBin ?_; refine s_eqlT rfl rfl (by omega) ?_) | (refine isCall ?_; refine s_lenI sl_ints rfl (by assumption) ?_) | (refine isPick ?_; refine s_pickt rfl rfl ?_)))
      refine s_call ok_within' rfl (vwithin_ct 1000000 v bid w2 hl2) ?_
      rintro u w3 ⟨rfl, hx3⟩
      repeat (first | (refine isO ?_; first | refine s_assign ?_ | (refine isPick ?_; refine s_pickt rfl rfl ?_)) | (refine isC ?_; refine c_ret ?_) | (refine l_th ?_))
      exact ret1 rfl rfl ⟨vbool (by unfold vecB; rw [hb, decide_eq_true h1]; rfl), hx02.trans hx3⟩
    · repeat (first | (refine isO ?_; first | refine s_move ?_ | refine s_assign ?_ | (refine isG ?_; first | refine g_yes rfl rfl ?_ | refine g_no rfl rfl rfl ?_) | (refine isBin ?_; refine s_eqlF rfl rfl (by omega) ?_) | (refine isCall ?_; refine s_lenI sl_ints rfl (by assumption) ?_) | (refine isPick ?_; first | refine s_pickt rfl rfl ?_ | refine s_pickf rfl rfl ?_)) | (refine isC ?_; refine c_ret ?_) | (refine l_th ?_))
      exact ret1 rfl rfl ⟨vbool (by unfold vecB; rw [hb, decide_eq_false h1]; rfl), hx02⟩
  · refine s_re (v' := .bool false) (vbool (e1.trans hb)) ?_
    repeat (first | (refine isO ?_; first | refine s_move ?_ | refine s_assign ?_ | (refine isG ?_; refine g_no rfl rfl rfl ?_) | (refine isPick ?_; refine s_pickf rfl rfl ?_)) | (refine isC ?_; refine c_ret ?_) | (refine l_th ?_))
    exact ret1 rfl rfl ⟨vbool (by unfold vecB; rw [hb]; rfl), hx02⟩
theorem tb8_map (f : Nat → Int) : tb8 f = ((List.range 8).map f).map (Value.int .i64) := by simp [tb8]
theorem tb8_congr {f g : Nat → Int} (h : ∀ k, k < 8 → f k = g k) : tb8 f = tb8 g := by
  unfold tb8; apply List.map_congr_left; intro x hx; rw [h x (List.mem_range.1 hx)]
theorem ordB_bad {l : List Int} {many k : Nat} (hk : k < l.length) (h : l.getD k 0 < 0 ∨ (many : Int) ≤ l.getD k 0) : ordB l many = false := by
  unfold ordB
  rw [all_false_of hk (by rcases h with h | h
                          · rw [decide_eq_false (show ¬ 0 ≤ l.getD k 0 by omega)]; rfl
                          · rw [decide_eq_false (show ¬ l.getD k 0 < (many : Int) by omega), Bool.and_false])]
  rfl
theorem ordered_ct (v : Value) (l : List Int) (many : Nat) (w : World) (hl : Ints w v l) (hm : many ≤ 8) :
    Ct Tryz.prog 124 #[v, .int .i64 (many : Int)] w fun u w' => u = .bool (ordB l many) ∧ Ex w w' := by
  have hlen := hl.len
  refine Exists.elim in_a8 fun ti hti => ?_
  refine enter (N := 39) (vs := [v, .int .i64 (many : Int)]) Tryz.func124 rfl rfl rfl ?_
  repeat (first | (refine isO ?_; refine s_assign ?_) | (refine isC ?_; refine c_sr ?_) | (refine l_th ?_))
  refine s_alloc (cs := List.replicate 8 (Value.int .i64 0)) hti.1 hti.2 rfl ?_
  intro b5 w1 hb5 hA5 hx1 hs1
  refine s_alloc (cs := List.replicate 8 (Value.int .i64 0)) hti.1 hti.2 rfl ?_
  intro b6 w2 hb6 hA6 hx2 hs2
  have hx02 := hx1.trans hx2
  have hA52 := hA5.ex hx2
  rw [tb8_zero] at hA52 hA6
  have hne : b5 ≠ b6 := by omega
  have z1 := hx1.size
  repeat (first | (refine isO ?_; refine s_move ?_) | (refine isC ?_; first | refine c_sr ?_ | refine c_seq ?_ | refine c_block ?_) | (refine l_th ?_))
  refine c_loop (γ := Nat) 129152 (fun i => [(11, .int .i64 (i : Int))]) (fun i W => i ≤ many ∧ At W b5 95 (tb8 (fun _ => 0)) ∧ At W b6 95 (tb8 (fun k => if k < i then 1 else 0)) ∧ Ex w W) (fun i => many - i) 0 ⟨rfl, trivial⟩ ⟨Nat.zero_le _, hA52, by rw [tb8_congr (g := fun _ => 0) (fun k _ => by simp)]; exact hA6, hx02⟩ ?_
  rintro i ρ W ⟨hi, hAa, hAb, hx⟩
  repeat (first | (refine isO ?_; (refine isBin ?_; refine s_lss rfl rfl ?_)) | (refine isC ?_; first | refine c_sr ?_ | refine c_seq ?_) | (refine l_th ?_))
  refine c_ifd rfl (fun h => ?_) (fun h => ?_)
  · have hi' : i < many := by omega
    have hi8 : i < 8 := by omega
    repeat (first | (refine isO ?_; first | refine s_move ?_ | refine s_assign ?_) | (refine isC ?_; first | refine c_sr ?_ | refine c_th ?_ | refine c_seq ?_ | refine c_region ?_ | refine c_block ?_) | (refine l_th ?_))
    refine s_iaV (n := i) u_a8 ty_int rfl rfl hi8 ?_
    refine s_stA (n := i) (u := .int .i64 1) ty_int rfl rfl rfl hAb (by rw [tb8_len]; exact hi8) ?_
    intro W2 hAb2 hg2
    rw [tb8_set _ _ hi8, tb8_congr (g := fun k => if k < i + 1 then 1 else 0) (fun k _ => by
      unfold fset
      by_cases e : k = i
      · rw [if_pos e, if_pos (by omega)]
      · rw [if_neg e]
        show (if k < i then (1 : Int) else 0) = _
        by_cases e2 : k < i
        · rw [if_pos e2, if_pos (by omega)]
        · rw [if_neg e2, if_neg (by omega)])] at hAb2
    repeat (first | (refine isO ?_; first | refine s_move ?_ | (refine isBin ?_; refine s_inc rfl (by omega) ?_)) | (refine isC ?_; refine c_region ?_) | (first | refine l_th ?_ | refine l_nil ?_))
    exact loop_end (i + 1) (by (repeat (first | exact agree_refl _ _ | refine agree_upd rfl ?_ | refine agree_ext rfl ?_ | refine agree_mask rfl ?_))) ⟨rfl, trivial⟩ ⟨hi', hAa.grown hg2 (fun e => hne (Option.some.inj e).symm), hAb2, hx.store hg2 (by omega)⟩ (by omega)
  · have him : i = many := by omega
    subst him
    have hlW := hl.ex hx
    repeat (first | (refine isO ?_; first | refine s_move ?_ | (refine isCall ?_; refine s_lenI sl_ints rfl (by assumption) ?_)) | (refine isC ?_; first | refine c_sr ?_ | refine c_seq ?_ | refine c_block ?_ | refine c_exit ?_) | (refine l_th ?_))
    refine c_loop (γ := Nat) 68718952976 (fun j => [(19, .int .i64 (j : Int))]) (fun j W' => j ≤ l.length ∧ At W' b5 95 (tb8 (fun k => (((l.take j).count (k : Int) : Nat) : Int))) ∧ At W' b6 95 (tb8 (fun k => if k < i then 1 else 0)) ∧ ((l.take j).all fun n => decide (0 ≤ n) && decide (n < (i : Int))) = true ∧ Ex w W') (fun j => l.length - j) 0 ⟨rfl, trivial⟩ ⟨Nat.zero_le _, hAa, hAb, rfl, hx⟩ ?_
    rintro j ρ2 W2 ⟨hj, hAa2, hAb2, hall, hx2⟩
    have hl2 := hl.ex hx2
    repeat (first | (refine isO ?_; (refine isBin ?_; refine s_lss rfl rfl ?_)) | (refine isC ?_; first | refine c_sr ?_ | refine c_seq ?_) | (refine l_th ?_))
    refine c_ifd rfl (fun h2 => ?_) (fun h2 => ?_)
    · have hj' : j < l.length := by omega
      have hst := all_take_step l (fun n => decide (0 ≤ n) && decide (n < (i : Int))) j hj'
      by_cases h3 : l.getD j 0 < 0
      · have hbad := ordB_bad (many := i) hj' (.inl h3)
        repeat (first | (refine isO ?_; first | refine s_move ?_ | refine s_assign ?_ | (refine isG ?_; refine g_no rfl rfl rfl ?_) | (refine isBin ?_; refine s_lssT rfl rfl (by omega) ?_) | (refine isIA ?_; refine s_ixI sl_ints ty_int rfl rfl rfl (by assumption) (by omega) ?_; intro _) | (refine isPick ?_; refine s_pickt rfl rfl ?_)) | (refine isC ?_; first | refine c_sr ?_ | refine c_th ?_ | refine c_seq ?_ | refine c_ift rfl ?_ | refine c_block ?_ | refine c_ret ?_) | (first | refine l_th ?_ | refine th_ret ?_ | refine ib_ret ?_))
        exact ret1 rfl rfl ⟨vbool hbad.symm, hx2⟩
      · by_cases h4 : (i : Int) ≤ l.getD j 0
        · have hbad := ordB_bad (many := i) hj' (.inr h4)
          repeat (first | (refine isO ?_; first | refine s_move ?_ | refine s_assign ?_ | (refine isG ?_; refine g_yes rfl rfl ?_) | (refine isBin ?_; first | refine s_lssF rfl rfl (by omega) ?_ | refine s_geqT rfl rfl (by omega) ?_) | (refine isIA ?_; refine s_ixI sl_ints ty_int rfl rfl rfl (by assumption) (by omega) ?_; intro _) | (refine isPick ?_; refine s_pickf rfl rfl ?_)) | (refine isC ?_; first | refine c_sr ?_ | refine c_th ?_ | refine c_seq ?_ | refine c_ift rfl ?_ | refine c_block ?_ | refine c_ret ?_) | (first | refine l_th ?_ | refine th_ret ?_ | refine ib_ret ?_))
          exact ret1 rfl rfl ⟨vbool hbad.symm, hx2⟩
        · refine Exists.elim (show ∃ q : Nat, l.getD j 0 = (q : Int) from ⟨(l.getD j 0).toNat, by omega⟩) fun q hq => ?_
          have hq8 : q < 8 := by omega
          have hcb : (l.take j).count (q : Int) ≤ j := Nat.le_trans List.count_le_length (by rw [List.length_take]; omega)
          have hgood : (decide (0 ≤ l.getD j 0) && decide (l.getD j 0 < (i : Int))) = true := by rw [decide_eq_true (by omega), decide_eq_true (by omega)]; rfl
          rw [hall, hgood] at hst
          repeat (first | (refine isO ?_; first | refine s_move ?_ | refine s_assign ?_ | (refine isG ?_; refine g_yes rfl rfl ?_) | (refine isBin ?_; first | refine s_lssF rfl rfl (by omega) ?_ | refine s_geqF rfl rfl (by omega) ?_) | (refine isIA ?_; refine s_ixI sl_ints ty_int rfl rfl rfl (by assumption) (by omega) ?_; intro _) | (refine isPick ?_; refine s_pickf rfl rfl ?_)) | (refine isC ?_; first | refine c_sr ?_ | refine c_th ?_ | refine c_seq ?_ | refine c_region ?_ | refine c_iff rfl ?_ | refine c_block ?_) | (refine l_th ?_))
          refine s_iaV (n := q) u_a8 ty_int rfl (vint hq) hq8 ?_
          refine s_ldA ty_int rfl hAa2 (tb8_get _ hq8) ?_
          refine s_inc rfl (by omega) ?_
          refine s_iaV (n := q) u_a8 ty_int rfl (vint hq) hq8 ?_
          refine s_stA (n := q) (u := .int .i64 (((l.take j).count (q : Int) + 1 : Nat) : Int)) ty_int rfl rfl rfl hAa2 (by rw [tb8_len]; exact hq8) ?_
          intro W3 hAa3 hg3
          rw [tb8_set _ _ hq8, tb8_congr (g := fun k => (((l.take (j + 1)).count (k : Int) : Nat) : Int)) (fun k _ => by
            have e0 : l.take (j + 1) = l.take j ++ [(q : Int)] := by
              rw [List.take_succ_eq_append_getElem hj']
              congr 1
              rw [← hq]; simp [List.getD_eq_getElem?_getD, hj']
            rw [e0, List.count_append]
            unfold fset
            by_cases e : k = q
            · subst e; rw [if_pos rfl]; simp
            · rw [if_neg e, List.count_singleton, if_neg (by simp; omega)]; simp)] at hAa3
          repeat (first | (refine isO ?_; first | refine s_move ?_ | (refine isBin ?_; refine s_inc rfl (by omega) ?_)) | (refine isC ?_; refine c_region ?_) | (first | refine l_th ?_ | refine l_nil ?_))
          exact loop_end (j + 1) (by (repeat (first | exact agree_refl _ _ | refine agree_upd rfl ?_ | refine agree_ext rfl ?_ | refine agree_mask rfl ?_))) ⟨rfl, trivial⟩ ⟨hj', hAa3, hAb2.grown hg3 (fun e => hne (Option.some.inj e)), hst, hx2.store hg3 (by omega)⟩ (by omega)
    · rw [List.take_of_length_le (by omega)] at hall
      have e5 : l.take j = l := List.take_of_length_le (by omega)
      rw [e5] at hAa2
      repeat ((refine isC ?_; first | refine c_sr ?_ | refine c_exit ?_))
      refine s_ldV u_a8 rfl (by rw [tb8_len]; exact sz_a8) rfl hAa2 ?_
      refine s_ldV u_a8 rfl (by rw [tb8_len]; exact sz_a8) rfl hAb2 ?_
      refine s_eqlA (k := .i64) u_a8 Tryz.underlying3 (by kernel_rfl) (by kernel_rfl) (by kernel_rfl) (by kernel_rfl) (by simp) (by simp) (congrArg (fun z : List Value => Value.agg z.toArray) (tb8_map _)) (congrArg (fun z : List Value => Value.agg z.toArray) (tb8_map _)) ?_
      repeat (first | (refine isO ?_; refine s_assign ?_) | (refine isC ?_; refine c_ret ?_) | (refine l_th ?_))
      exact ret1 rfl rfl ⟨vbool (by unfold ordB; rw [hall, Bool.true_and]), hx2⟩
/-- A market in memory. -/
structure Mk (w : World) (rv bv ov : Value) (res : List Int) (bids : List (List Int)) (ord : List Int) : Prop where
  r : Ints w rv res
  b : Rows w bv bids
  o : Ints w ov ord
theorem Mk.ex {w w' : World} {rv bv ov : Value} {res : List Int} {bids : List (List Int)} {ord : List Int} (h : Mk w rv bv ov res bids ord) (hx : Ex w w') : Mk w' rv bv ov res bids ord := ⟨h.r.ex hx, h.b.ex hx, h.o.ex hx⟩
theorem mcheck1_ct (u : Value) (l : List Int) (b : Nat) (items : Int) (w : World) (hl : Ints w u l) (hb : At w b 3 [.int .i64 items]) (hi : In64 (items - 1)) :
    Ct Tryz.prog 125 #[u, .pointer (some ⟨b, 0, none⟩)] w fun v w' => v = .bool (badBid items l) ∧ Ex w w' := by
  refine enter (N := 13) (vs := [u, .pointer (some ⟨b, 0, none⟩)]) Tryz.func125 rfl rfl rfl ?_
  by_cases h1 : 0 < (l.length : Int)
  · repeat (first | (refine isO ?_; first | refine s_move ?_ | refine s_assign ?_ | (refine isG ?_; refine g_yes rfl rfl ?_) | (refine isBin ?_; refine s_gtrT rfl rfl (by omega) ?_) | (refine isCall ?_; refine s_lenI sl_ints rfl (by assumption) ?_) | (refine isLD ?_; refine s_ldA ty_int rfl (by assumption) rfl ?_)) | (refine isC ?_; refine c_sr ?_) | (refine l_th ?_))
    refine s_call ok_vcheck rfl (vcheck_ct u l items w hl hi) ?_
    rintro v w' ⟨rfl, hx⟩
    repeat (first | (refine isO ?_; first | refine s_assign ?_ | (refine isG ?_; refine g_yes rfl rfl ?_) | (refine isPick ?_; refine s_pickt rfl rfl ?_) | refine s_not rfl ?_) | (refine isC ?_; refine c_ret ?_) | (refine l_th ?_))
    exact ret1 rfl rfl ⟨vbool (by unfold badBid; rw [decide_eq_true (show 0 < l.length by omega)]; rfl), hx⟩
  · repeat (first | (refine isO ?_; first | refine s_move ?_ | refine s_assign ?_ | (refine isG ?_; refine g_no rfl rfl rfl ?_) | (refine isBin ?_; refine s_gtrF rfl rfl (by omega) ?_) | (refine isCall ?_; refine s_lenI sl_ints rfl (by assumption) ?_) | (refine isPick ?_; refine s_pickf rfl rfl ?_)) | (refine isC ?_; first | refine c_sr ?_ | refine c_ret ?_) | (refine l_th ?_))
    exact ret1 rfl rfl ⟨vbool (by unfold badBid; rw [decide_eq_false (show ¬ 0 < l.length by omega)]; rfl), Ex.refl _⟩
set_option maxHeartbeats 1000000 in
theorem mcheck_ct (rv bv ov : Value) (res : List Int) (bids : List (List Int)) (ord : List Int) (w : World) (hM : Mk w rv bv ov res bids ord) :
    Ct Tryz.prog 86 #[.agg #[rv, bv, ov]] w fun u w' => u = .bool (chkM res bids ord) ∧ Ex w w' := by
  have hlr := hM.r.len
  have hlb := hM.b.len
  have hi64 : In64 ((res.length : Int) - 1) := ⟨by omega, by omega⟩
  refine Exists.elim in_int' fun ti hti => ?_
  refine enter (N := 36) (vs := [.agg #[rv, bv, ov]]) Tryz.func86 rfl rfl rfl ?_
  repeat ((refine isC ?_; refine c_sr ?_))
  refine s_box (cs := [rv, bv, ov]) rfl rfl ?_
  intro b0 w0 hb0 hZ hx0 hs0
  have hM0 := hM.ex hx0
  have hr0 := hM0.r
  have hbb0 := hM0.b
  repeat (first | (refine isO ?_; refine s_assign ?_) | (refine isC ?_; refine c_seq ?_) | (refine l_th ?_))
  refine c_drawO (Ex.refl w0) 0 8 [(0, true), (1, true), (2, true), (3, true), (4, true), (5, true), (6, false), (7, false), (8, true)] mixed (by kernel_rfl) ?_
  have hxd := Ex.drew w0
  refine d_fa rfl Tryz.underlying54 rfl ty_ints rfl ?_
  refine d_ldA rfl ty_ints rfl hZ rfl ?_
  refine d_lenIO rfl sl_ints rfl hr0 ?_
  refine d_fa rfl Tryz.underlying54 rfl ty_rows rfl ?_
  refine d_ldA rfl ty_rows rfl hZ rfl ?_
  refine d_lenRO rfl sl_rows rfl hbb0 ?_
  refine d_ch rfl ?_
  refine s_alloc (cs := [.int .i64 0]) hti.1 hti.2.1 rfl ?_
  intro b3 w1 hb3 hA3 hx1 hs1
  have hx01 := hxd.trans hx1
  refine l_nil ⟨rfl, .inr hx01, ?_⟩
  refine d_ch rfl ?_
  refine s_stA (n := 0) (u := .int .i64 (res.length : Int)) ty_int rfl rfl rfl hA3 (by simp) ?_
  intro w2 hA32 hg2
  have zd := hxd.size
  have hx2 : Ex w0 w2 := hx01.store hg2 (by omega)
  refine l_nil ⟨rfl, .inr hx2, ?_⟩
  refine d_assign rfl ?_
  refine d_nil ?_
  have hZ2 := hZ.ex hx2
  have hM2 := hM0.ex hx2
  have hA3' : At w2 b3 3 [.int .i64 (res.length : Int)] := hA32
  repeat (first | (refine isO ?_; (refine isLD ?_; first | refine s_ldA ty_int rfl (by assumption) rfl ?_ | refine s_ldA ty_ints rfl (by assumption) rfl ?_)) | (refine isO ?_; refine s_fa Tryz.underlying54 rfl ty_ints rfl ?_) | (refine isC ?_; refine c_sr ?_))
  refine s_call ok_vcheck rfl (vcheck_ct rv res (res.length : Int) w2 hM2.r hi64) ?_
  rintro u w3 ⟨rfl, hx3⟩
  have hx03 := hx2.trans hx3
  refine Or.elim (tfV (vecB res res.length)) (fun hb => ?_) (fun hb => ?_)
  · refine s_re (v' := .bool true) (vbool hb) ?_
    by_cases h1 : (1 : Int) ≤ (bids.length : Int)
    · by_cases h2 : (bids.length : Int) ≤ 8
      · have hZ3 := hZ.ex hx03
        have hM3 := hM0.ex hx03
        repeat (first | (refine isO ?_; first | refine s_move ?_ | (refine isG ?_; refine g_yes rfl rfl ?_) | (refine isBin ?_; first | refine s_leqT rfl rfl (by omega) ?_ | refine s_geqT rfl rfl (by omega) ?_) | (refine isPick ?_; refine s_pickt rfl rfl ?_) | (refine isLD ?_; refine s_ldA ty_ints rfl (by assumption) rfl ?_)) | (refine isO ?_; refine s_fa Tryz.underlying54 rfl ty_ints rfl ?_))
        refine s_call ok_ordered rfl (ordered_ct ov ord bids.length w3 hM3.o (by omega)) ?_
        rintro u w4 ⟨rfl, hx4⟩
        have hx04 := hx03.trans hx4
        refine Or.elim (tfV (ordB ord bids.length)) (fun hb2 => ?_) (fun hb2 => ?_)
        · refine s_re (v' := .bool true) (vbool hb2) ?_
          have hZ4 := hZ.ex hx04
          have hM4 := hM0.ex hx04
          have hA34 := hA3'.ex (hx3.trans hx4)
          repeat (first | (refine isO ?_; first | refine s_move ?_ | (refine isG ?_; refine g_yes rfl rfl ?_) | (refine isPick ?_; refine s_pickt rfl rfl ?_)) | (refine isO ?_; first | refine s_fa Tryz.underlying54 rfl ty_rows rfl ?_ | refine s_ldA ty_rows rfl (by assumption) rfl ?_))
          refine s_mkfn (vs := [.pointer (some ⟨b3, 0, none⟩)]) rfl ?_
          repeat ((refine isO ?_; (refine isG ?_; refine g_yes rfl rfl ?_)))
          refine s_call ok_cfR rfl (cfR_ct bv bids 125 [.pointer (some ⟨b3, 0, none⟩)] (badBid res.length) w4 hM4.b ⟨ok_mcheck1, fun u l w5 h5 hu => mcheck1_ct u l _ _ w5 hu (hA34.ex h5) hi64⟩) ?_
          rintro u w5 ⟨rfl, hx5⟩
          repeat (first | (refine isO ?_; first | refine s_assign ?_ | (refine isG ?_; refine g_yes rfl rfl ?_) | (refine isPick ?_; refine s_pickt rfl rfl ?_) | refine s_not rfl ?_) | (refine isC ?_; refine c_ret ?_) | (refine l_th ?_))
          exact ret1 rfl rfl ⟨vbool (by unfold chkM; rw [hb, hb2, decide_eq_true (show 1 ≤ bids.length by omega), decide_eq_true (show bids.length ≤ 8 by omega)]; rfl), hx0.trans (hx04.trans hx5)⟩
        · refine s_re (v' := .bool false) (vbool hb2) ?_
          repeat (first | (refine isO ?_; first | refine s_move ?_ | refine s_assign ?_ | (refine isG ?_; refine g_no rfl rfl rfl ?_) | (refine isPick ?_; first | refine s_pickt rfl rfl ?_ | refine s_pickf rfl rfl ?_)) | (refine isC ?_; refine c_ret ?_) | (refine l_th ?_))
          exact ret1 rfl rfl ⟨vbool (by unfold chkM; rw [hb2]; simp), hx0.trans hx04⟩
      · repeat (first | (refine isO ?_; first | refine s_move ?_ | refine s_assign ?_ | (refine isG ?_; first | refine g_yes rfl rfl ?_ | refine g_no rfl rfl rfl ?_) | (refine isBin ?_; first | refine s_leqF rfl rfl (by omega) ?_ | refine s_geqT rfl rfl (by omega) ?_) | (refine isPick ?_; first | refine s_pickt rfl rfl ?_ | refine s_pickf rfl rfl ?_)) | (refine isC ?_; refine c_ret ?_) | (refine l_th ?_))
        exact ret1 rfl rfl ⟨vbool (by unfold chkM; rw [decide_eq_false (show ¬ bids.length ≤ 8 by omega)]; simp), hx0.trans hx03⟩
    · repeat (first | (refine isO ?_; first | refine s_move ?_ | refine s_assign ?_ | (refine isG ?_; first | refine g_yes rfl rfl ?_ | refine g_no rfl rfl rfl ?_) | (refine isBin ?_; refine s_geqF rfl rfl (by omega) ?_) | (refine isPick ?_; first | refine s_pickt rfl rfl ?_ | refine s_pickf rfl rfl ?_)) | (refine isC ?_; refine c_ret ?_) | (refine l_th ?_))
      exact ret1 rfl rfl ⟨vbool (by unfold chkM; rw [decide_eq_false (show ¬ 1 ≤ bids.length by omega)]; simp), hx0.trans hx03⟩
  · refine s_re (v' := .bool false) (vbool hb) ?_
    repeat (first | (refine isO ?_; first | refine s_move ?_ | refine s_assign ?_ | (refine isG ?_; refine g_no rfl rfl rfl ?_) | (refine isPick ?_; refine s_pickf rfl rfl ?_)) | (refine isC ?_; refine c_ret ?_) | (refine l_th ?_))
    exact ret1 rfl rfl ⟨vbool (by unfold chkM; rw [hb]; simp), hx0.trans hx03⟩
end Go.Proofs.YtifbgpkjbciblaaGreatDoor.Sal
end
section
/- How the arguments of the laws of the rises read. -/
set_option maxRecDepth 100000
namespace Go.Proofs.YtifbgpkjbciblaaGreatDoor.Sal
open Go.RowKit Go.Deep Go.ChangeShapes Go.WideShapes Go.ChangeAt Go.Joins
set_option linter.all false
theorem own : ownKnob Tryz.prog.godebug = none := by kernel_rfl
theorem laidOut : laidOutB Tryz.prog = true := by kernel_rfl
section
variable {H : Type} {enc : TypeId × Value → H} {w : World} {base : Nat} {spare : Nat → Bool} {held : Bool} {r : Reach} {b0 : Nat} {v : Value} {d : DataW H} {p : List MemPlace}
theorem open_market (hv : Value.okWide Tryz.prog w r b0 54 v) (h : DataW.Trod enc Tryz.prog w base spare held 54 v d p) (hw : ∀ n ∈ d.weights Tryz.prog 54, n ≤ reachBytes) :
    ∃ (rv bv ov : Value) (res : List Int) (bids : List (List Int)) (ord : List Int), v = .agg #[rv, bv, ov] ∧ Mk w rv bv ov res bids ord := by
  obtain ⟨v0, v1, v2, y0, y1, y2, m, rfl, rfl, rfl, h0, h1, h2⟩ := open_agg3 Tryz.underlying54 (by kernel_rfl) (by kernel_rfl) hv h
  have hw0 : ∀ n ∈ y0.1.weights Tryz.prog 25, n ≤ reachBytes := fun n hn => hw n (by
    simp only [DataW.weights, Tryz.underlying54, List.map, DataW.weightsEach, List.mem_append]
    exact .inl hn)
  have hw1 : ∀ n ∈ y1.1.weights Tryz.prog 22, n ≤ reachBytes := fun n hn => hw n (by
    simp only [DataW.weights, Tryz.underlying54, List.map, DataW.weightsEach, List.mem_append]
    exact .inr (.inl hn))
  have hw2 : ∀ n ∈ y2.1.weights Tryz.prog 25, n ≤ reachBytes := fun n hn => hw n (by
    simp only [DataW.weights, Tryz.underlying54, List.map, DataW.weightsEach, List.mem_append]
    exact .inr (.inr (.inl hn)))
  obtain ⟨res, hr, _⟩ := read_ints Tryz.underlying25 Tryz.underlying3 (by kernel_rfl) (of_decide_eq_true (by kernel_rfl)) h0 hw0
  obtain ⟨bids, hb, _⟩ := read_rows Tryz.underlying22 Tryz.underlying25 Tryz.underlying3 (by kernel_rfl) (by kernel_rfl) (of_decide_eq_true (by kernel_rfl)) (of_decide_eq_true (by kernel_rfl)) h1 hw1
  obtain ⟨ord, ho, _⟩ := read_ints Tryz.underlying25 Tryz.underlying3 (by kernel_rfl) (of_decide_eq_true (by kernel_rfl)) h2 hw2
  exact ⟨v0, v1, v2, res, bids, ord, rfl, hr, hb, ho⟩
end
end Go.Proofs.YtifbgpkjbciblaaGreatDoor.Sal
end
section
/- graphs.Fits. -/
set_option maxRecDepth 100000
namespace Go.Proofs.YtifbgpkjbciblaaGreatDoor.Sal
open Go.RowKit
attribute [local irreducible] Go.Code.wpIn Go.wpListIn Ct Ints Rows Sl At Rw WJ
set_option linter.all false
structure PreF (R : Nat → Nat → Bool) (n : Nat) (has : List Int) (k : Nat) : Prop where
  ok : ∀ i, i < k → has.getD i (-1) = -1 ∨ ∃ q : Nat, q < n ∧ has.getD i (-1) = (q : Int) ∧ R i q = true
  inj : ∀ i j, i < k → j < k → has.getD i (-1) = has.getD j (-1) → has.getD i (-1) ≠ -1 → i = j
def hadF (has : List Int) (k : Nat) (q : Nat) : Int := if (has.take k).contains (q : Int) = true then 1 else 0
theorem take_has {has : List Int} {k : Nat} (hk : k < has.length) (q : Int) : (has.take (k + 1)).contains q = ((has.take k).contains q || decide (has.getD k 0 = q)) := by
  rw [List.take_succ_eq_append_getElem hk]
  have e : has.getD k 0 = has[k] := by simp [hk]
  rw [e, Bool.eq_iff_iff]
  simp only [List.contains_iff_mem, List.mem_append, List.mem_singleton, Bool.or_eq_true, decide_eq_true_eq]
  constructor
  · rintro (h | h)
    · exact .inl h
    · exact .inr h.symm
  · rintro (h | h)
    · exact .inl h
    · exact .inr h.symm
theorem hadF_other {has : List Int} {k : Nat} (hk : k < has.length) {q : Nat} (h : has.getD k 0 ≠ (q : Int)) : hadF has (k + 1) q = hadF has k q := by
  unfold hadF
  rw [take_has hk, decide_eq_false h, Bool.or_false]
theorem hadF_same {has : List Int} {k : Nat} (hk : k < has.length) {q : Nat} (h : has.getD k 0 = (q : Int)) : hadF has (k + 1) q = 1 := by
  unfold hadF
  rw [take_has hk, decide_eq_true h, Bool.or_true, if_pos rfl]
theorem getD_m1 {has : List Int} {k : Nat} (hk : k < has.length) : has.getD k (-1) = has.getD k 0 := by simp [List.getD_eq_getElem?_getD, hk]
theorem mem_take_getD {has : List Int} {k : Nat} {q : Int} (h : (has.take k).contains q = true) : ∃ i, i < k ∧ i < has.length ∧ has.getD i (-1) = q := by
  rw [List.contains_iff_mem] at h
  obtain ⟨i, hi⟩ := List.mem_iff_getElem?.1 h
  rw [List.getElem?_take] at hi
  split at hi
  · rename_i hik
    have hl := (List.getElem?_eq_some_iff.1 hi).1
    exact ⟨i, hik, hl, by rw [List.getD_eq_getElem?_getD, hi]; rfl⟩
  · cases hi
theorem PreF.all {R : Nat → Nat → Bool} {m n : Nat} {has : List Int} (h : FitR R m n has) {k : Nat} (hk : k ≤ m) : PreF R n has k :=
  ⟨fun i hi => h.ok i (by omega), fun i j hi hj => h.inj i j (by omega) (by omega)⟩
theorem PreF.none {R : Nat → Nat → Bool} {n : Nat} {has : List Int} {k : Nat} (h : PreF R n has k) (hk : k < has.length) (h1 : has.getD k 0 = -1) : PreF R n has (k + 1) := by
  have e := getD_m1 hk
  refine ⟨fun i hi => ?_, fun i j hi hj he hne => ?_⟩
  · by_cases hik : i = k
    · subst hik; exact .inl (by omega)
    · exact h.ok i (by omega)
  · by_cases hik : i = k
    · subst hik; omega
    · by_cases hjk : j = k
      · subst hjk; omega
      · exact h.inj i j (by omega) (by omega) he hne
theorem PreF.some {R : Nat → Nat → Bool} {n : Nat} {has : List Int} {k q : Nat} (h : PreF R n has k) (hk : k < has.length) (hq : q < n) (h1 : has.getD k 0 = (q : Int)) (hR : R k q = true) (hno : (has.take k).contains (q : Int) = false) : PreF R n has (k + 1) := by
  have e := getD_m1 hk
  have hnot : ∀ i, i < k → has.getD i (-1) ≠ (q : Int) := fun i hi hv => by
    have hil : i < has.length := by omega
    have : (has.take k).contains (q : Int) = true := by
      rw [List.contains_iff_mem, ← hv, List.getD_eq_getElem?_getD, List.getElem?_eq_getElem hil]
      refine List.mem_iff_getElem?.2 ⟨i, ?_⟩
      rw [List.getElem?_take, if_pos hi, List.getElem?_eq_getElem hil]; rfl
    rw [this] at hno; cases hno
  refine ⟨fun i hi => ?_, fun i j hi hj he hne => ?_⟩
  · by_cases hik : i = k
    · subst hik; exact .inr ⟨q, hq, by omega, hR⟩
    · exact h.ok i (by omega)
  · by_cases hik : i = k
    · by_cases hjk : j = k
      · omega
      · subst hik
        exact absurd (by omega) (hnot j (by omega))
    · by_cases hjk : j = k
      · subst hjk
        exact absurd (by omega) (hnot i (by omega))
      · exact h.inj i j (by omega) (by omega) he hne
set_option maxHeartbeats 2000000 in
theorem Fits_ok {R : Nat → Nat → Bool} {m n : Nat} (hm : m ≤ 8) (hn : n ≤ 8) (gv : Value) (hv : Value) (has : List Int) (w : World) (hg : Rows w gv (gL R m n)) (hh : Ints w hv has) (hl : has.length = m) :
    Ct Tryz.prog 130 #[gv, .int .i64 (n : Int), hv] w fun u w' => (∃ b : Bool, u = .bool b ∧ (b = true ↔ FitR R m n has)) ∧ Ex w w' := by
  have hgl := gL_len R m n
  have hchk := chk_ok (R := R) hm hn
  refine Exists.elim in_a8 fun ti hti => ?_
  refine enter (N := 47) (vs := [gv, .int .i64 (n : Int), hv]) Tryz.func130 rfl rfl rfl ?_
  repeat (first | (refine isO ?_; first | refine s_move ?_ | refine s_assign ?_) | (refine isC ?_; first | refine c_sr ?_ | refine c_seq ?_) | (refine l_th ?_))
  refine s_call ok_Check rfl (Check_ct gv (gL R m n) n w hg) ?_
  rintro v w2 ⟨rfl, hx2⟩
  refine s_re (v' := .bool true) (vbool hchk) ?_
  have hg2 := hg.ex hx2
  have hh2 := hh.ex hx2
  repeat (first | (refine isO ?_; first | refine s_move ?_ | (refine isG ?_; refine g_yes rfl rfl ?_) | (refine isBin ?_; refine s_neqF rfl rfl (by omega) ?_) | (refine isCall ?_; first | refine s_lenI sl_ints rfl (by assumption) ?_ | refine s_lenR sl_rows rfl (by assumption) ?_) | (refine isPick ?_; refine s_pickf rfl rfl ?_) | refine s_not rfl ?_) | (refine isC ?_; first | refine c_sr ?_ | refine c_th ?_ | refine c_iff rfl ?_) | (refine l_th ?_))
  refine s_alloc (cs := List.replicate 8 (Value.int .i64 0)) hti.1 hti.2 rfl ?_
  intro b7 w3 hb7 hA7 hx3 hs3
  have e0 : tb8 (fun _ => 0) = tb8 (fun q => hadF has 0 q) := by congr 1
  rw [tb8_zero, e0] at hA7
  have hx03 := hx2.trans hx3
  have hh3 := hh.ex hx03
  have hb7w : w.heap.size ≤ b7 := by have := hx2.size; omega
  repeat (first | (refine isO ?_; first | refine s_move ?_ | (refine isCall ?_; refine s_lenI sl_ints rfl (by assumption) ?_)) | (refine isC ?_; first | refine c_sr ?_ | refine c_seq ?_ | refine c_block ?_) | (refine l_th ?_))
  refine c_loop (γ := Nat) 140737479967552 (fun k => [(23, .int .i64 (k : Int))]) (fun k w' => k ≤ m ∧ PreF R n has k ∧ At w' b7 95 (tb8 (fun q => hadF has k q)) ∧ Ex w w') (fun k => m - k) 0 ⟨rfl, trivial⟩ ⟨Nat.zero_le _, ⟨fun i h => by omega, fun i j h => by omega⟩, hA7, hx03⟩ ?_
  rintro k ρ w4 ⟨hk, hP, hA4, hx4⟩
  have hh4 := hh.ex hx4
  have hg4 := hg.ex hx4
  repeat (first | (refine isO ?_; (refine isBin ?_; refine s_lss rfl rfl ?_)) | (refine isC ?_; first | refine c_sr ?_ | refine c_seq ?_) | (refine l_th ?_))
  refine c_ifd rfl (fun h => ?_) (fun h => ?_)
  · have hk' : k < m := by omega
    have hkl : k < has.length := by omega
    have hd1 := getD_m1 hkl
    by_cases hm1 : has.getD k 0 = -1
    · have hP1 := hP.none hkl hm1
      have e1 : tb8 (fun q => hadF has (k + 1) q) = tb8 (fun q => hadF has k q) := by
        congr 1; funext q
        exact hadF_other hkl (by omega)
      repeat (first | (refine isO ?_; first | refine s_move ?_ | refine s_assign ?_ | (refine isBin ?_; first | refine s_inc rfl (by omega) ?_ | refine s_eqlT rfl rfl (by omega) ?_) | (refine isIA ?_; refine s_ixI sl_ints ty_int rfl rfl rfl (by assumption) (by omega) ?_; intro _)) | (refine isC ?_; first | refine c_sr ?_ | refine c_th ?_ | refine c_seq ?_ | refine c_region ?_ | refine c_ift rfl ?_ | refine c_block ?_ | refine c_exit ?_) | (refine l_th ?_))
      exact loop_end (k + 1) (by (repeat (first | exact agree_refl _ _ | refine agree_upd rfl ?_ | refine agree_ext rfl ?_ | refine agree_mask rfl ?_))) ⟨rfl, trivial⟩ ⟨hk', hP1, by rw [e1]; exact hA4, hx4⟩ (by omega)
    · repeat (first | (refine isO ?_; first | refine s_move ?_ | refine s_assign ?_ | (refine isBin ?_; refine s_eqlF rfl rfl (by omega) ?_) | (refine isIA ?_; refine s_ixI sl_ints ty_int rfl rfl rfl (by assumption) (by omega) ?_; intro _)) | (refine isC ?_; first | refine c_sr ?_ | refine c_th ?_ | refine c_seq ?_ | refine c_iff rfl ?_ | refine c_block ?_) | (refine l_th ?_))
      refine s_ixR sl_rows ty_ints rfl rfl rfl hg4 (by omega) ?_
      intro _ u hu
      rw [gL_row hk'] at hu
      repeat ((refine isO ?_; refine s_move ?_))
      refine s_call ok_Contains rfl (Contains_ct u _ (has.getD k 0) w4 hu) ?_
      rintro v w5 ⟨rfl, hx5⟩
      have hx05 := hx4.trans hx5
      have hA5 := hA4.ex hx5
      cases hcn : (rowL n (R k)).contains (has.getD k 0) with
      | false =>
        have hno : ¬ FitR R m n has := fun hF => by
          rcases hF.ok k hk' with h9 | ⟨q, h9, h10, h11⟩
          · omega
          · have := (rowL_has n (R k) (has.getD k 0)).2 ⟨q, h9, h11, by omega⟩
            rw [this] at hcn; cases hcn
        repeat (first | (refine isO ?_; first | refine s_assign ?_ | refine s_not rfl ?_) | (refine isC ?_; first | refine c_sr ?_ | refine c_ift rfl ?_ | refine c_ret ?_) | (first | refine l_th ?_ | refine th_ret ?_ | refine ib_ret ?_))
        exact ret1 rfl rfl ⟨⟨false, rfl, fun h => (by cases h), fun hF => absurd hF hno⟩, hx05⟩
      | true =>
        refine Exists.elim ((rowL_has n (R k) (has.getD k 0)).1 hcn) fun q hq => ?_
        have hq1 := hq.1
        have hq2 := hq.2.1
        have hq3 := hq.2.2
        have hq8 : q < 8 := by omega
        have hs1 := hadF_same hkl hq3
        have hset : fset (fun q => hadF has k q) q 1 = fun q => hadF has (k + 1) q := by
          funext p
          unfold fset
          by_cases e : p = q
          · subst e; rw [if_pos rfl, hs1]
          · rw [if_neg e, hadF_other hkl (by omega)]
        repeat (first | (refine isO ?_; first | refine s_move ?_ | refine s_not rfl ?_) | (refine isC ?_; first | refine c_sr ?_ | refine c_th ?_ | refine c_iff rfl ?_) | (refine l_th ?_))
        refine s_iaV (n := q) u_a8 ty_int rfl (vint hq3) hq8 ?_
        refine s_ldA ty_int rfl hA5 (tb8_get _ hq8) ?_
        cases hin : (has.take k).contains (q : Int) with
        | true =>
          have hv1 : hadF has k q = 1 := by unfold hadF; rw [if_pos hin]
          have hno : ¬ FitR R m n has := fun hF => by
            obtain ⟨i, h9, h10, h11⟩ := mem_take_getD hin
            have := hF.inj i k (by omega) hk' (by omega) (by omega)
            omega
          repeat ((refine isO ?_; (refine isBin ?_; refine s_add rfl rfl ⟨by omega, by omega⟩ ?_)))
          refine s_iaV (n := q) u_a8 ty_int rfl (vint hq3) hq8 ?_
          refine s_stA (n := q) (u := .int .i64 (hadF has k q + 1)) ty_int rfl rfl rfl hA5 (by rw [tb8_len]; exact hq8) ?_
          intro w6 hA6 hg6
          rw [tb8_set _ _ hq8] at hA6
          have hx06 := hx05.store hg6 hb7w
          repeat (first | (refine isO ?_; refine s_move ?_) | (refine isC ?_; refine c_sr ?_) | (refine l_th ?_))
          refine s_iaV (n := q) u_a8 ty_int rfl (vint hq3) hq8 ?_
          refine s_ldA ty_int rfl hA6 (tb8_get _ hq8) ?_
          refine s_re (v' := .int .i64 2) (vint (by rw [fset_same, hv1]; rfl)) ?_
          repeat (first | (refine isO ?_; first | refine s_assign ?_ | (refine isBin ?_; refine s_gtrT rfl rfl (by omega) ?_)) | (refine isC ?_; first | refine c_sr ?_ | refine c_ift rfl ?_ | refine c_ret ?_) | (first | refine l_th ?_ | refine th_ret ?_ | refine ib_ret ?_))
          exact ret1 rfl rfl ⟨⟨false, rfl, fun h => (by cases h), fun hF => absurd hF hno⟩, hx06⟩
        | false =>
          have hv1 : hadF has k q = 0 := by unfold hadF; rw [if_neg (by rw [hin]; exact Bool.false_ne_true)]
          have hP1 := hP.some hkl hq1 hq3 hq2 hin
          repeat ((refine isO ?_; (refine isBin ?_; refine s_add rfl rfl ⟨by omega, by omega⟩ ?_)))
          refine s_iaV (n := q) u_a8 ty_int rfl (vint hq3) hq8 ?_
          refine s_stA (n := q) (u := .int .i64 (hadF has k q + 1)) ty_int rfl rfl rfl hA5 (by rw [tb8_len]; exact hq8) ?_
          intro w6 hA6 hg6
          rw [tb8_set _ _ hq8, hv1] at hA6
          have hx06 := hx05.store hg6 hb7w
          repeat (first | (refine isO ?_; refine s_move ?_) | (refine isC ?_; refine c_sr ?_) | (refine l_th ?_))
          refine s_iaV (n := q) u_a8 ty_int rfl (vint hq3) hq8 ?_
          refine s_ldA ty_int rfl hA6 (tb8_get _ hq8) ?_
          refine s_re (v' := .int .i64 1) (vint (by rw [fset_same]; rfl)) ?_
          repeat (first | (refine isO ?_; first | refine s_move ?_ | (refine isBin ?_; first | refine s_inc rfl (by omega) ?_ | refine s_gtrF rfl rfl (by omega) ?_)) | (refine isC ?_; first | refine c_region ?_ | refine c_iff rfl ?_ | refine c_skip ?_) | (refine l_th ?_))
          exact loop_end (k + 1) (by (repeat (first | exact agree_refl _ _ | refine agree_upd rfl ?_ | refine agree_ext rfl ?_ | refine agree_mask rfl ?_))) ⟨rfl, trivial⟩ ⟨hk', hP1, by rw [← hset]; exact hA6, hx06⟩ (by omega)
  · have hkm : k = m := by omega
    subst hkm
    repeat (first | (refine isO ?_; refine s_assign ?_) | (refine isC ?_; first | refine c_sr ?_ | refine c_ret ?_ | refine c_exit ?_) | (refine l_th ?_))
    exact ret1 rfl rfl ⟨⟨true, rfl, fun _ => ⟨hl, hP.ok, hP.inj⟩, fun _ => rfl⟩, hx4⟩
end Go.Proofs.YtifbgpkjbciblaaGreatDoor.Sal
end
section
/- graphs.Turned. -/
set_option maxRecDepth 100000
namespace Go.Proofs.YtifbgpkjbciblaaGreatDoor.Sal
open Go.RowKit
attribute [local irreducible] Go.Code.wpIn Go.wpListIn Ct Ints Rows Sl At Rw WJ
set_option linter.all false
theorem in_ints' : ∃ ti, Tryz.prog.info? 25 = some ti ∧ ti.zero = some (.slice none 0 0) ∧ ti.size = 1 ∧ ti.bytes ≤ 64 := in_ints.ex
theorem Rw.one {w : World} {E : TypeId} {v : Value} {vs : List Value} (h : Rw w E v vs) : v.oneCell' = true := by
  obtain ⟨a, c, rfl⟩ := h.slen; rfl
end Go.Proofs.YtifbgpkjbciblaaGreatDoor.Sal
end
section
/- salesroomlaw06.alive. -/
set_option maxRecDepth 100000
namespace Go.Proofs.YtifbgpkjbciblaaGreatDoor.Sal
open Go.RowKit
attribute [local irreducible] Go.Code.wpIn Go.wpListIn Ct Ints Rows Sl At Rw WJ
set_option linter.all false
theorem rows2 {w : World} {b b1 b2 : Nat} {E : TypeId} {l1 l2 : List Int} (h : At w b E [sv b1 l1.length l1.length, sv b2 l2.length l2.length]) (h1 : Ints w (sv b1 l1.length l1.length) l1) (h2 : Ints w (sv b2 l2.length l2.length) l2) : Rows w (sv b 2 2) [l1, l2] := by
  refine At.rows (g := [l1, l2]) h rfl (by simp) (by simp) (fun i u l hu hl => ?_)
  match i with
  | 0 => simp at hu hl; subst hu; subst hl; exact h1
  | 1 => simp at hu hl; subst hu; subst hl; exact h2
  | i + 2 => simp at hu
theorem At.two {w : World} {b : Nat} {E : TypeId} {p q : Int} (h : At w b E [.int .i64 p, .int .i64 q]) : Ints w (sv b 2 2) [p, q] := At.ints (l := [p, q]) (c := 2) h (by simp) (by simp)
end Go.Proofs.YtifbgpkjbciblaaGreatDoor.Sal
end
section
/- What the laws of the graphs have in common. -/
set_option maxRecDepth 100000
namespace Go.Proofs.YtifbgpkjbciblaaGreatDoor.Sal
open Go.RowKit
attribute [local irreducible] Go.Code.wpIn Go.wpListIn Ct Ints Rows Sl At Rw WJ
set_option linter.all false
theorem ok_IntsSize : CallOK Tryz.prog 30 := callOK Tryz.func30 (by kernel_rfl) rfl
theorem IntsSize_ct (v : Value) (l : List Int) (w : World) (hl : Ints w v l) : Ct Tryz.prog 30 #[v] w fun u w' => u = .int .i64 (l.length : Int) ∧ Ex w w' := by
  have hlen := hl.len
  refine enter (N := 5) (vs := [v]) Tryz.func30 rfl rfl rfl ?_
  repeat (first | (refine isO ?_; first | refine s_move ?_ | refine s_assign ?_ | (refine isCall ?_; refine s_lenI sl_ints rfl (by assumption) ?_)) | (refine isC ?_; first | refine c_sr ?_ | refine c_ret ?_) | (refine l_th ?_))
  exact ret1 rfl rfl ⟨rfl, Ex.refl _⟩
theorem ris_of {n : Nat} (hn : n ≤ 8) (p : Nat → Bool) : risB (-1) (rowL n p) (n : Int) = true := by
  have h := chk_ok (R := fun _ => p) (m := 1) (n := n) (by omega) hn
  unfold chkG at h
  simp only [Bool.and_eq_true] at h
  have h2 := h.2
  simp [gL] at h2
  exact h2
theorem rowL_none {n : Nat} {p : Nat → Bool} (h : ∀ k, p k = false) : rowL n p = [] := by
  unfold rowL rowN
  rw [List.filter_eq_nil_iff.2 (fun k _ => by simp [h k])]; rfl
theorem nearP_one {R : Nat → Nat → Bool} {m i : Nat} (hi : i < m) (k : Nat) : nearP R m [(i : Int)] k = R i k := by
  rw [Bool.eq_iff_iff]
  unfold nearP
  simp only [List.any_eq_true, List.mem_range, Bool.and_eq_true, List.contains_iff_mem, List.mem_singleton]
  constructor
  · rintro ⟨j, _, h1, h2⟩
    have : j = i := by omega
    rw [this] at h2; exact h2
  · intro h
    exact ⟨i, hi, rfl, h⟩
section
variable {r : Option Nat} {P : Program} {J : World → Prop} {z : Nat} {Q : Exit → Act → World → Prop} {N : Nat} {σ : Nat → Value} {ds : List Deferred} {w : World}
variable {gd : Option (Nat × Bool)} {ops : Array Oper} {i d : Nat} {π : List (Nat × Bool)} {ty : TypeId} {pos : String} {after : Array Edge} {t t' : TypeId} {x y : Operand}
end
end Go.Proofs.YtifbgpkjbciblaaGreatDoor.Sal
end
