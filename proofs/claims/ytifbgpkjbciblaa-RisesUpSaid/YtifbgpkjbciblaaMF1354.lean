/- Texts that YtifbgpkjbciblaaF135 leans on, laid together: G5 V1 RF Core21 G6 G7 G8 G9 P1 P2. -/
import Derived.Test.YtifbgpkjbciblaaMF1353
import Derived.Test.YtifbgpkjbciblaaMF1352
import Derived.Laws.Tables
section
/- slices.Clip; graphs.Near. -/
set_option maxRecDepth 100000
namespace Go.Proofs.Ytifbgpkjbciblaa.Sal
open Go.RowKit
attribute [local irreducible] Go.Code.wpIn Go.wpListIn Ct Ints Rows Sl At Rw WJ
set_option linter.all false
theorem ok_Near : CallOK Try.prog 36 := callOK Try.func36 (by kernel_rfl) rfl
theorem Clip_ct (v : Value) (l : List Int) (w : World) (hl : Ints w v l) :
    Ct Try.prog 22 #[v] w fun u w' => (∃ a c, v = .slice a l.length c ∧ u = .slice a l.length l.length) ∧ Ints w' u l ∧ Ex w w' := by
  have hlen := hl.len
  obtain ⟨hm, a, n, c, hv, hn, hnc, hc⟩ := Ints.parts hl
  subst hv
  have hn' : l.length = n := by simpa using hn
  subst hn'
  refine enter (N := 9) (vs := [.slice a l.length c]) Try.func22 rfl rfl rfl ?_
  repeat (first | (refine isO ?_; first | refine s_move ?_ | refine s_assign ?_ | (refine isCall ?_; refine s_lenI sl_ints rfl (by assumption) ?_)) | (refine isC ?_; refine c_sr ?_) | (refine l_th ?_))
  refine s_clip sl_ints ty_int rfl rfl rfl hnc ?_
  repeat (first | (refine isO ?_; refine s_assign ?_) | (refine isC ?_; refine c_ret ?_) | (refine l_th ?_))
  exact ret1 rfl rfl ⟨⟨a, c, rfl, rfl⟩, Ints.of_parts hm hn hc, Ex.refl _⟩
theorem in_a8 : ∃ ti, Try.prog.info? 78 = some ti ∧ ti.zero = some (.agg (List.replicate 8 (Value.int .i64 0)).toArray) := by
  have h : (Try.prog.info? 78).map (·.zero) = some (some (.agg (List.replicate 8 (Value.int .i64 0)).toArray)) := by kernel_rfl
  cases hi : Try.prog.info? 78 with
  | none => rw [hi] at h; cases h
  | some ti => rw [hi] at h; exact ⟨ti, rfl, by simpa using h⟩
theorem u_a8 : Try.prog.underlying 78 = some (.array 8 3) := Try.underlying78
theorem sz_a8 : (Try.prog.info? 78).map (·.size) = some 8 := by kernel_rfl
def tb8 (f : Nat → Int) : List Value := (List.range 8).map (fun x => Value.int .i64 (f x))
theorem tb8_len (f : Nat → Int) : (tb8 f).length = 8 := by simp [tb8]
theorem tb8_get (f : Nat → Int) {x : Nat} (h : x < 8) : (tb8 f)[x]? = some (.int .i64 (f x)) := by simp [tb8, h]
theorem tb8_set (f : Nat → Int) {x : Nat} (y : Int) (h : x < 8) : (tb8 f).set x (.int .i64 y) = tb8 (fset f x y) := by
  apply List.ext_getElem?
  intro i
  rw [List.getElem?_set]
  simp only [tb8, List.length_map, List.length_range]
  by_cases hi : x = i
  · subst hi; simp [h, fset]
  · have : ¬ i = x := fun e => hi e.symm
    simp [hi, fset, this]
    by_cases h8 : i < 8 <;> simp [h8, this]
theorem tb8_zero : List.replicate 8 (Value.int .i64 0) = tb8 (fun _ => 0) := rfl
/-- What is near to some, of the pairs that came. -/
def nearF (some : List Int) {n : Nat} (pre : List (PK n)) (k : Nat) : Int := if pre.any (fun x => x.1.2 == k && some.contains (x.1.1 : Int)) = true then 1 else 0
theorem nearF_snoc (some : List Int) {n : Nat} (pre : List (PK n)) (x : PK n) : nearF some (pre ++ [x]) = if some.contains (x.1.1 : Int) = true then fset (nearF some pre) x.1.2 1 else nearF some pre := by
  funext k
  have e1 : ([x].any fun y => y.1.2 == k && some.contains (y.1.1 : Int)) = (x.1.2 == k && some.contains (x.1.1 : Int)) := by simp only [List.any_cons, List.any_nil, Bool.or_false]
  unfold nearF
  rw [List.any_append, e1]
  cases h : some.contains (x.1.1 : Int) with
  | true =>
    rw [if_pos rfl]
    unfold fset
    by_cases e : k = x.1.2
    · have e2 : (x.1.2 == k) = true := by simpa using e.symm
      simp only [e2, Bool.and_true, Bool.or_true, if_true]
      rw [if_pos e]
    · have e2 : (x.1.2 == k) = false := by simpa using fun hh => e hh.symm
      simp only [e2, Bool.false_and, Bool.or_false]
      rw [if_neg e]
  | false =>
    rw [if_neg Bool.false_ne_true]
    simp only [Bool.and_false, Bool.or_false]
theorem mem_prow {n i : Nat} {l : List Nat} {x : PK n} : x ∈ prow n i l ↔ x.1.1 = i ∧ x.1.2 ∈ l := by
  unfold prow
  rw [List.mem_filterMap]
  constructor
  · rintro ⟨k, hk, he⟩
    split at he
    · cases he; exact ⟨rfl, hk⟩
    · cases he
  · rintro ⟨rfl, hk⟩
    exact ⟨x.1.2, hk, by rw [dif_pos x.2]⟩
theorem mem_prs {R : Nat → Nat → Bool} {n : Nat} {x : PK n} : ∀ {m : Nat}, x ∈ prs R n m ↔ x.1.1 < m ∧ R x.1.1 x.1.2 = true
  | 0 => by simp [prs]
  | m + 1 => by
    rw [prs, List.mem_append, mem_prs, mem_prow, mem_rowN]
    constructor
    · rintro (⟨h1, h2⟩ | ⟨rfl, h1, h2⟩)
      · exact ⟨by omega, h2⟩
      · exact ⟨by omega, h2⟩
    · rintro ⟨h1, h2⟩
      by_cases e : x.1.1 = m
      · exact .inr ⟨e, x.2, e ▸ h2⟩
      · exact .inl ⟨by omega, h2⟩
def nearP (R : Nat → Nat → Bool) (m : Nat) (some : List Int) (k : Nat) : Bool := (List.range m).any (fun i => some.contains (i : Int) && R i k)
theorem nearF_all {R : Nat → Nat → Bool} {m n : Nat} (some : List Int) {k : Nat} (hk : k < n) : nearF some (prs R n m) k = if nearP R m some k = true then 1 else 0 := by
  unfold nearF
  have : ((prs R n m).any (fun x => x.1.2 == k && some.contains (x.1.1 : Int))) = nearP R m some k := by
    rw [Bool.eq_iff_iff]
    unfold nearP
    simp only [List.any_eq_true, Bool.and_eq_true, beq_iff_eq, List.mem_range]
    constructor
    · rintro ⟨x, hx, h1, h2⟩
      rw [mem_prs] at hx
      exact ⟨x.1.1, hx.1, h2, h1 ▸ hx.2⟩
    · rintro ⟨i, hi, h1, h2⟩
      exact ⟨⟨(i, k), hk⟩, mem_prs.2 ⟨hi, h2⟩, rfl, h1⟩
  rw [this]
theorem nearF_big (some : List Int) {n : Nat} (pre : List (PK n)) {k : Nat} (hk : n ≤ k) : nearF some pre k = 0 := by
  unfold nearF
  rw [if_neg]
  simp only [List.any_eq_true, Bool.and_eq_true, beq_iff_eq, not_exists, not_and]
  intro x hx h1
  have := x.2
  omega
theorem rowL_step (n : Nat) (p : Nat → Bool) : rowL (n + 1) p = rowL n p ++ (if p n = true then [(n : Int)] else []) := by
  unfold rowL rowN
  rw [List.range_succ, List.filter_append, List.map_append]
  congr 1
  by_cases h : p n = true <;> simp [h]
set_option maxHeartbeats 2000000 in
theorem Near_ok {R : Nat → Nat → Bool} {m n : Nat} (hm : m ≤ 8) (hn : n ≤ 8) (gv : Value) (sv' : Value) (sl : List Int) (w : World) (hg : Rows w gv (gL R m n)) (hs : Ints w sv' sl) (hb : risB (-1) sl (m : Int) = true) :
    Ct Try.prog 36 #[gv, .int .i64 (n : Int), sv'] w fun u w' => ∃ v a, u = .tuple #[v, .int .i64 0] ∧ v = .slice a (rowL n (nearP R m sl)).length (rowL n (nearP R m sl)).length ∧ (∀ b, v.ownBlock = some b → w.heap.size ≤ b) ∧ Ints w' v (rowL n (nearP R m sl)) ∧ Ex w w' := by
  obtain ⟨a, c, hform⟩ := hs.form
  have hgl := gL_len R m n
  have hchk := chk_ok (R := R) hm hn
  refine Exists.elim in_a8 fun ti hti => ?_
  refine Exists.elim hg.parts fun vs hvs => ?_
  refine enter (N := 47) (vs := [gv, .int .i64 (n : Int), sv']) Try.func36 rfl rfl rfl ?_
  repeat ((refine isC ?_; refine c_sr ?_))
  refine s_box (cs := [sv']) rfl (by rw [hform]; rfl) ?_
  intro b5 w1 hb5 hA5 hx1 hs1
  have hg1 := hg.ex hx1
  repeat (first | (refine isO ?_; first | refine s_move ?_ | refine s_assign ?_) | (refine isC ?_; first | refine c_sr ?_ | refine c_seq ?_) | (refine l_th ?_))
  refine s_call ok_Check rfl (Check_ct gv (gL R m n) n w1 hg1) ?_
  rintro v w2 ⟨rfl, hx2⟩
  refine s_re (v' := .bool true) (vbool hchk) ?_
  have hx02 := hx1.trans hx2
  have hg2 := hg.ex hx02
  have hA52 := hA5.ex hx2
  repeat ((refine isO ?_; first | refine s_move ?_ | (refine isG ?_; refine g_yes rfl rfl ?_) | (refine isCall ?_; refine s_lenR sl_rows rfl (by assumption) ?_) | (refine isLD ?_; refine s_ldA ty_ints rfl (by assumption) rfl ?_) | refine s_not rfl ?_))
  refine s_call ok_rises rfl (rises_ct sv' sl ((gL R m n).length : Int) w2 (hs.ex hx02)) ?_
  rintro v w3 ⟨rfl, hx3⟩
  refine s_re (v' := .bool true) (vbool (by rw [hgl]; exact hb)) ?_
  have hx03 := hx02.trans hx3
  repeat (first | (refine isO ?_; first | (refine isG ?_; refine g_yes rfl rfl ?_) | (refine isPick ?_; refine s_pickf rfl rfl ?_) | refine s_not rfl ?_) | (refine isC ?_; first | refine c_sr ?_ | refine c_th ?_ | refine c_iff rfl ?_) | (refine l_th ?_))
  refine s_alloc (cs := List.replicate 8 (Value.int .i64 0)) hti.1 hti.2 rfl ?_
  intro b8 w4 hb8 hA8 hx4 hs4
  rw [tb8_zero] at hA8
  have hx04 := hx03.trans hx4
  repeat (first | (refine isO ?_; refine s_move ?_) | (refine isC ?_; first | refine c_sr ?_ | refine c_seq ?_) | (refine l_th ?_))
  refine s_call ok_edges rfl (edges_ct gv (gL R m n) w4 (hg.ex hx04)) ?_
  rintro v w5 ⟨ce, rfl, hce, hs5, hES, hx5⟩
  have hx05 := hx04.trans hx5
  have hE5 := ES.of hES.1 hvs hx05
  have hA55 := hA5.ex ((hx2.trans hx3).trans (hx4.trans hx5))
  have hA85 := hA8.ex hx5
  have hlt5 := hA5.lt
  have hlt8 := hA8.lt
  have z1 := hx1.size
  have z2 := hx2.size
  have z3 := hx3.size
  have z4 := hx4.size
  have z5 := hx5.size
  repeat (first | (refine isC ?_; refine c_block ?_) | (refine l_th ?_))
  refine c_range (gf := 72) (lb := [.pointer (some ⟨ce, 0, none⟩)]) rfl ok_edges1 (edges_stops hm hn hE5) (fun h k => fun hh => k (h hh)) (fun W l o o' _ hl hc _ hh => hh.kc (KC.put hl hc)) (fun W h => h) (Ex.refl _) (fun _ => rfl)
    (fun pre W => (ES ce gv vs (gL R m n) W ∧ At W b5 22 [sv'] ∧ At W b8 78 (tb8 (nearF sl pre))) ∧ Ex w W)
    (OwnFrom.and (Own.from (fun pre A B row hs hg hr => ⟨hs.1.kc (KC.turn hg hr), At.own (fun _ : Unit => [sv']) () A B row hs.2.1 hg hr, At.own (fun pre => tb8 (nearF sl pre)) pre A B row hs.2.2 hg hr⟩) _) (ownFrom_below (Nat.le_refl _) (by omega)))
    ⟨⟨hE5, hA55, hA85⟩, hx05⟩
    (fun x σ => upd (upd (updl [(26, .int .i64 (x.1.1 : Int)), (27, .int .i64 (x.1.2 : Int))] σ) 9 (.int .i64 (x.1.1 : Int))) 10 (.int .i64 (x.1.2 : Int))) ?_ ?_ ?_
  · intro l x W K hK
    repeat (first | (refine isO ?_; refine s_assign ?_) | (refine isC ?_; first | refine c_sr ?_ | refine c_region ?_) | (refine l_th ?_))
    exact hK
  · rintro l pre x W ⟨⟨hE, hA5w, hA8w⟩, hxw⟩ hlt
    have hk8 : x.1.2 < 8 := by have := x.2; omega
    have hsn := nearF_snoc sl pre x
    repeat (first | (refine isO ?_; first | refine s_move ?_ | (refine isLD ?_; refine s_ldA ty_ints rfl (by assumption) rfl ?_)) | (refine isC ?_; first | refine c_sr ?_ | refine c_block ?_))
    refine s_call ok_Contains rfl (Contains_ct sv' sl (x.1.1 : Int) W (hs.ex hxw)) ?_
    rintro v W2 ⟨rfl, hx2w⟩
    have hA5x := hA5w.ex hx2w
    have hA8x := hA8w.ex hx2w
    have hEx := hE.kc (KC.ex hx2w)
    cases hcn : sl.contains (x.1.1 : Int) with
    | false =>
      rw [hcn, if_neg Bool.false_ne_true] at hsn
      repeat (first | (refine isC ?_; first | refine c_iff rfl ?_ | refine c_skip ?_) | (first | refine l_th ?_ | refine ib_norm ?_))
      refine own_norm (KeepsFrom.ex hx2w) (fun _ => hEx) ⟨⟨hEx, hA5x, ?_⟩, hxw.trans hx2w⟩
      rw [hsn]; exact hA8x
    | true =>
      rw [hcn, if_pos rfl] at hsn
      repeat (first | (refine isO ?_; refine s_move ?_) | (refine isC ?_; first | refine c_region ?_ | refine c_ift rfl ?_) | (refine l_th ?_))
      refine s_iaV (n := x.1.2) u_a8 ty_int rfl rfl hk8 ?_
      refine s_stA (n := x.1.2) (u := .int .i64 1) ty_int rfl rfl rfl hA8x (by rw [tb8_len]; exact hk8) ?_
      intro W3 hA8y hgy
      rw [tb8_set _ _ hk8, ← hsn] at hA8y
      have hx3w : Ex w W3 := (hxw.trans hx2w).store hgy (by omega)
      have hE3 := ES.of (cell_gr hEx.1 hgy (show ce ≠ b8 by omega)) hvs hx3w
      have hA5y := hA5x.grown hgy (fun e => by cases e; omega)
      repeat ((first | refine ib_norm ?_ | refine l_nil ?_))
      exact own_norm ((KeepsFrom.ex hx2w).trans (KeepsFrom.of_grownBy hgy (fun j e => by cases e; omega))) (fun _ => hE3) ⟨⟨hE3, hA5y, hA8y⟩, hx3w⟩
  · rintro D xs W hD hxs ⟨⟨hE, hA5w, hA8w⟩, hxw⟩ hK
    subst hxs
    have hwD : w.heap.size ≤ D := by omega
    repeat ((refine isC ?_; first | refine c_sr ?_ | refine c_seq ?_))
    refine s_ldV u_a8 rfl (by rw [tb8_len]; exact sz_a8) rfl hA8w ?_
    repeat (first | (refine isO ?_; refine s_move ?_) | (refine isC ?_; refine c_block ?_) | (refine l_th ?_))
    refine c_loop2 35167192225856 (fun (k : Nat) (v : Value) => [(34, .int .i64 (k : Int)), (6, v)]) (fun k v w' => k ≤ 8 ∧ LI W w' 3 v (rowL (min k n) (nearP R m sl)) ∧ Ex W w') (fun k _ => 8 - k) 0 (.slice none 0 0) ⟨rfl, rfl, trivial⟩ ⟨Nat.zero_le _, by rw [Nat.zero_min]; exact LI.nil _ _ _, Ex.refl _⟩ ?_
    rintro k v6 ρ W1 ⟨hk, hL1, hxW1⟩
    have hrl := rowL_len (min k n) (nearP R m sl)
    have hrn := rowN_le (min k n) (nearP R m sl)
    repeat (first | (refine isO ?_; (refine isBin ?_; refine s_lss rfl rfl ?_)) | (refine isC ?_; first | refine c_sr ?_ | refine c_seq ?_) | (refine l_th ?_))
    refine c_ifd rfl (fun h => ?_) (fun h => ?_)
    · have hk8 : k < 8 := by omega
      repeat (first | (refine isO ?_; refine s_move ?_) | (refine isC ?_; first | refine c_sr ?_ | refine c_th ?_ | refine c_seq ?_ | refine c_block ?_))
      refine s_idxV (n := k) u_a8 ty_int rfl rfl hk8 (tb8_get _ hk8) ?_
      by_cases hkn : k < n
      · have hfa := nearF_all (R := R) (m := m) sl hkn
        have hst := rowL_step k (nearP R m sl)
        have hm1 : min k n = k := by omega
        have hm2 : min (k + 1) n = k + 1 := by omega
        by_cases hp : nearP R m sl k = true
        · rw [if_pos hp] at hfa hst
          repeat (first | (refine isO ?_; first | refine s_move ?_ | refine s_assign ?_ | (refine isBin ?_; refine s_eqlT rfl rfl (by omega) ?_)) | (refine isC ?_; first | refine c_sr ?_ | refine c_region ?_ | refine c_ift rfl ?_) | (refine l_th ?_))
          refine s_li sl_ints in_int rfl hL1 rfl rfl (fun _ => rfl) (by omega) hxW1 ?_
          intro v' W2 sl' hL2 hxW2
          rw [hm1, ← hst] at hL2
          repeat (first | (refine isO ?_; first | refine s_move ?_ | refine s_assign ?_ | (refine isBin ?_; refine s_inc rfl (by omega) ?_)) | (refine isC ?_; refine c_region ?_) | (first | refine l_th ?_ | refine l_nil ?_))
          exact loop_end2 (k + 1) v' (by (repeat (first | exact agree_refl _ _ | refine agree_upd rfl ?_ | refine agree_ext rfl ?_ | refine agree_mask rfl ?_))) ⟨rfl, rfl, trivial⟩ ⟨by omega, by rw [hm2]; exact hL2, hxW2⟩ (by omega)
        · rw [if_neg hp] at hfa hst
          rw [List.append_nil] at hst
          rw [hm1, ← hst] at hL1
          repeat (first | (refine isO ?_; first | refine s_move ?_ | refine s_assign ?_ | (refine isBin ?_; first | refine s_inc rfl (by omega) ?_ | refine s_eqlF rfl rfl (by omega) ?_)) | (refine isC ?_; first | refine c_sr ?_ | refine c_region ?_ | refine c_iff rfl ?_ | refine c_skip ?_) | (refine l_th ?_))
          exact loop_end2 (k + 1) v6 (by (repeat (first | exact agree_refl _ _ | refine agree_upd rfl ?_ | refine agree_ext rfl ?_ | refine agree_mask rfl ?_))) ⟨rfl, rfl, trivial⟩ ⟨by omega, by rw [hm2]; exact hL1, hxW1⟩ (by omega)
      · have hfb := nearF_big sl (prs R n m) (show n ≤ k by omega)
        have hm1 : min k n = min (k + 1) n := by omega
        rw [hm1] at hL1
        repeat (first | (refine isO ?_; first | refine s_move ?_ | refine s_assign ?_ | (refine isBin ?_; first | refine s_inc rfl (by omega) ?_ | refine s_eqlF rfl rfl (by omega) ?_)) | (refine isC ?_; first | refine c_sr ?_ | refine c_region ?_ | refine c_iff rfl ?_ | refine c_skip ?_) | (refine l_th ?_))
        exact loop_end2 (k + 1) v6 (by (repeat (first | exact agree_refl _ _ | refine agree_upd rfl ?_ | refine agree_ext rfl ?_ | refine agree_mask rfl ?_))) ⟨rfl, rfl, trivial⟩ ⟨by omega, hL1, hxW1⟩ (by omega)
    · have hm1 : min k n = n := by omega
      rw [hm1] at hL1 hrl hrn
      have hI1 := hL1.ints (by omega)
      have hK1 := mark_ex hK hxW1
      repeat (first | (refine isO ?_; refine s_move ?_) | (refine isC ?_; first | refine c_sr ?_ | refine c_exit ?_))
      refine s_call ok_Clip rfl (Clip_ct v6 _ W1 hI1) ?_
      rintro u W2 ⟨⟨a', c', hv6, rfl⟩, hI2, hxW2⟩
      have hK2 := mark_ex hK1 hxW2
      repeat (first | (refine isO ?_; refine s_assign ?_) | (refine isC ?_; refine c_ret ?_) | (refine l_th ?_))
      refine ret2m rfl rfl rfl hK2 ⟨_, a', rfl, rfl, fun b hb => ?_, (mark_kc hK2).ints hI2, mark_out (hxw.trans (hxW1.trans hxW2)) hwD⟩
      have h9 := hL1.2 b (by rw [hv6]; cases a' <;> exact hb)
      have := hxw.size
      omega
end Go.Proofs.Ytifbgpkjbciblaa.Sal
end
section
/- vectors.within, vectors.Check; markets.ordered, markets.Check. -/
set_option maxRecDepth 100000
namespace Go.Proofs.Ytifbgpkjbciblaa.Sal
open Go.RowKit
def inM (most n : Int) : Bool := decide (0 ≤ n) && decide (n ≤ most)
def vecB (bid : List Int) (items : Int) : Bool := inM 7 (items - 1) && decide ((bid.length : Int) = items) && bid.all (inM 1000000)
def badBid (items : Int) (bid : List Int) : Bool := decide (0 < bid.length) && !vecB bid items
def ordB (l : List Int) (many : Nat) : Bool := (l.all fun n => decide (0 ≤ n) && decide (n < (many : Int))) && decide ((List.range 8).map (fun k : Nat => ((l.count (k : Int) : Nat) : Int)) = (List.range 8).map (fun k : Nat => if k < many then (1 : Int) else 0))
def chkM (res : List Int) (bids : List (List Int)) (ord : List Int) : Bool := vecB res res.length && decide (1 ≤ bids.length) && decide (bids.length ≤ 8) && ordB ord bids.length && !(bids.any (badBid res.length))
theorem all_take_step (l : List Int) (p : Int → Bool) (k : Nat) (hk : k < l.length) : (l.take (k + 1)).all p = ((l.take k).all p && p (l.getD k 0)) := by
  rw [List.take_succ_eq_append_getElem hk, List.all_append]; simp [hk]
theorem all_false_of {l : List Int} {p : Int → Bool} {k : Nat} (hk : k < l.length) (h : p (l.getD k 0) = false) : l.all p = false := by
  rw [List.all_eq_false]
  refine ⟨l.getD k 0, ?_, by rw [h]; simp⟩
  rw [List.getD_eq_getElem?_getD, List.getElem?_eq_getElem hk]
  exact List.getElem_mem hk
theorem tfV (b : Bool) : b = true ∨ b = false := by cases b <;> simp
attribute [local irreducible] Go.Code.wpIn Go.wpListIn Ct Ints Rows Sl At Rw WJ
set_option linter.all false
theorem ok_within' : CallOK Try.prog 46 := callOK Try.func46 (by kernel_rfl) rfl
theorem ok_vcheck : CallOK Try.prog 24 := callOK Try.func24 (by kernel_rfl) rfl
theorem ok_ordered : CallOK Try.prog 25 := callOK Try.func25 (by kernel_rfl) rfl
theorem ok_mcheck : CallOK Try.prog 10 := callOK Try.func10 (by kernel_rfl) rfl
theorem ok_mcheck1 : CallOK Try.prog 27 := callOK Try.func27 (by kernel_rfl) rfl
theorem vwithin_ct (most : Int) (v : Value) (l : List Int) (w : World) (hl : Ints w v l) :
    Ct Try.prog 46 #[.int .i64 most, v] w fun u w' => u = .bool (l.all (inM most)) ∧ Ex w w' := by
  have hlen := hl.len
  refine enter (N := 27) (vs := [.int .i64 most, v]) Try.func46 rfl rfl rfl ?_
  repeat (first | (refine isO ?_; refine s_assign ?_) | (refine isC ?_; refine c_sr ?_) | (refine l_th ?_))
  refine c_scope _ 0 rfl ?_
  repeat (first | (refine isO ?_; first | refine s_move ?_ | refine s_assign ?_ | (refine isCall ?_; refine s_lenI sl_ints rfl (by assumption) ?_)) | (refine isC ?_; first | refine c_sr ?_ | refine c_seq ?_) | (refine l_th ?_))
  refine c_label ?_
  repeat (first | (refine isO ?_; first | refine s_move ?_ | (refine isCall ?_; refine s_lenI sl_ints rfl (by assumption) ?_)) | (refine isC ?_; first | refine c_sr ?_ | refine c_seq ?_ | refine c_block ?_) | (refine l_th ?_))
  refine c_loop (γ := Nat) 33550496 (fun k => [(12, .int .i64 (k : Int)), (5, .int .i64 ((l.length - k : Nat) : Int))]) (fun k W => k ≤ l.length ∧ (l.take k).all (inM most) = true ∧ Ex w W) (fun k => l.length - k) 0 ⟨rfl, vint (by simp), trivial⟩ ⟨Nat.zero_le _, rfl, Ex.refl _⟩ ?_
  rintro k ρ W ⟨hk, hall, hx⟩
  have hlW := hl.ex hx
  repeat (first | (refine isO ?_; (refine isBin ?_; refine s_lss rfl rfl ?_)) | (refine isC ?_; first | refine c_sr ?_ | refine c_seq ?_) | (refine l_th ?_))
  refine c_ifd rfl (fun h => ?_) (fun h => ?_)
  · have hk' : k < l.length := by omega
    have hst := all_take_step l (inM most) k hk'
    by_cases h1 : l.getD k 0 < 0
    · have hbad := all_false_of (p := inM most) hk' (by unfold inM; rw [decide_eq_false (by omega)]; rfl)
      repeat (first | (refine isO ?_; first | refine s_move ?_ | refine s_assign ?_ | (refine isBin ?_; first | refine s_lssT rfl rfl (by omega) ?_ | refine s_eqlF rfl rfl (by omega) ?_) | (refine isIA ?_; refine s_ixI sl_ints ty_int rfl rfl rfl (by assumption) (by omega) ?_; intro _)) | (refine isC ?_; first | refine c_sr ?_ | refine c_th ?_ | refine c_seq ?_ | refine c_ift rfl ?_ | refine c_block ?_ | refine c_ret ?_ | refine c_exit ?_) | (refine l_th ?_))
      refine sc_ret ?_
      exact ret1 rfl rfl ⟨vbool hbad.symm, hx⟩
    · by_cases h2 : most < l.getD k 0
      · have hbad := all_false_of (p := inM most) hk' (by unfold inM; rw [decide_eq_false (show ¬ l.getD k 0 ≤ most by omega), Bool.and_false])
        repeat (first | (refine isO ?_; first | refine s_move ?_ | refine s_assign ?_ | (refine isBin ?_; first | refine s_lssF rfl rfl (by omega) ?_ | refine s_eqlF rfl rfl (by omega) ?_ | refine s_gtrT rfl rfl (by omega) ?_) | (refine isIA ?_; refine s_ixI sl_ints ty_int rfl rfl rfl (by assumption) (by omega) ?_; intro _)) | (refine isC ?_; first | refine c_sr ?_ | refine c_th ?_ | refine c_seq ?_ | refine c_region ?_ | refine c_ift rfl ?_ | refine c_iff rfl ?_ | refine c_block ?_ | refine c_ret ?_ | refine c_exit ?_) | (refine l_th ?_))
        refine sc_ret ?_
        exact ret1 rfl rfl ⟨vbool hbad.symm, hx⟩
      · have hgood : inM most (l.getD k 0) = true := by unfold inM; rw [decide_eq_true (by omega), decide_eq_true (by omega)]; rfl
        rw [hall, hgood] at hst
        repeat (first | (refine isO ?_; first | refine s_move ?_ | refine s_assign ?_ | (refine isBin ?_; first | refine s_inc rfl (by omega) ?_ | refine s_lssF rfl rfl (by omega) ?_ | refine s_gtrF rfl rfl (by omega) ?_ | refine s_sub rfl rfl ⟨by omega, by omega⟩ ?_) | (refine isIA ?_; refine s_ixI sl_ints ty_int rfl rfl rfl (by assumption) (by omega) ?_; intro _)) | (refine isC ?_; first | refine c_sr ?_ | refine c_th ?_ | refine c_seq ?_ | refine c_region ?_ | refine c_iff rfl ?_ | refine c_block ?_ | refine c_skip ?_) | (first | refine l_th ?_ | refine l_nil ?_))
        exact loop_end (k + 1) (by (repeat (first | exact agree_refl _ _ | refine agree_upd rfl ?_ | refine agree_ext rfl ?_ | refine agree_mask rfl ?_))) ⟨rfl, vint (by omega), trivial⟩ ⟨hk', hst, hx⟩ (by omega)
  · rw [List.take_of_length_le (by omega)] at hall
    repeat (first | (refine isO ?_; first | refine s_move ?_ | refine s_assign ?_ | (refine isBin ?_; refine s_eqlT rfl rfl (by omega) ?_)) | (refine isC ?_; first | refine c_sr ?_ | refine c_ret ?_ | refine c_exit ?_) | (refine l_th ?_))
    refine sc_ret ?_
    exact ret1 rfl rfl ⟨vbool hall.symm, hx⟩
theorem vcheck_ct (v : Value) (bid : List Int) (items : Int) (w : World) (hl : Ints w v bid) (hi : In64 (items - 1)) :
    Ct Try.prog 24 #[v, .int .i64 items] w fun u w' => u = .bool (vecB bid items) ∧ Ex w w' := by
  refine enter (N := 19) (vs := [v, .int .i64 items]) Try.func24 rfl rfl rfl ?_
  repeat (first | (refine isO ?_; first | refine s_move ?_ | refine s_assign ?_) | (refine isC ?_; refine c_sr ?_) | (refine l_th ?_))
  refine s_sub rfl rfl hi ?_
  refine s_bs1 sl_ints in_int rfl rfl ?_
  intro b1 w1 hb1 hA1 hx1 hs1
  refine s_call ok_within' rfl (vwithin_ct 7 (sv b1 1 1) [items - 1] w1 hA1.one) ?_
  rintro u w2 ⟨rfl, hx2⟩
  have hx02 := hx1.trans hx2
  have hl2 := hl.ex hx02
  have e1 : [items - 1].all (inM 7) = inM 7 (items - 1) := by simp
  refine Or.elim (tfV (inM 7 (items - 1))) (fun hb => ?_) (fun hb => ?_)
  · refine s_re (v' := .bool true) (vbool (e1.trans hb)) ?_
    by_cases h1 : (bid.length : Int) = items
    · repeat ((refine isO ?_; first | refine s_move ?_ | (refine isG ?_; refine g_yes rfl rfl ?_) | (refine isBin ?_; refine s_eqlT rfl rfl (by omega) ?_) | (refine isCall ?_; refine s_lenI sl_ints rfl (by assumption) ?_) | (refine isPick ?_; refine s_pickt rfl rfl ?_)))
      refine s_call ok_within' rfl (vwithin_ct 1000000 v bid w2 hl2) ?_
      rintro u w3 ⟨rfl, hx3⟩
      repeat (first | (refine isO ?_; first | refine s_assign ?_ | (refine isPick ?_; refine s_pickt rfl rfl ?_)) | (refine isC ?_; refine c_ret ?_) | (refine l_th ?_))
      exact ret1 rfl rfl ⟨vbool (by unfold vecB; rw [hb, decide_eq_true h1]; rfl), hx02.trans hx3⟩
    · repeat (first | (refine isO ?_; first | refine s_move ?_ | refine s_assign ?_ | (refine isG ?_; first | refine g_yes rfl rfl ?_ | refine g_no rfl rfl rfl ?_) | (refine isBin ?_; refine s_eqlF rfl rfl (by omega) ?_) | (refine isCall ?_; refine s_lenI sl_ints rfl (by assumption) ?_) | (refine isPick ?_; first | refine s_pickt rfl rfl ?_ | refine s_pickf rfl rfl ?_)) | (refine isC ?_; refine c_ret ?_) | (refine l_th ?_))
      exact ret1 rfl rfl ⟨vbool (by unfold vecB; rw [hb, decide_eq_false h1]; rfl), hx02⟩
  · refine s_re (v' := .bool false) (vbool (e1.trans hb)) ?_
    repeat (first | (refine isO ?_; first | refine s_move ?_ | refine s_assign ?_ | (refine isG ?_; refine g_no rfl rfl rfl ?_) | (refine isPick ?_; refine s_pickf rfl rfl ?_)) | (refine isC ?_; refine c_ret ?_) | (refine l_th ?_))
    exact ret1 rfl rfl ⟨vbool (by unfold vecB; rw [hb]; rfl), hx02⟩
theorem tb8_map (f : Nat → Int) : tb8 f = ((List.range 8).map f).map (Value.int .i64) := by simp [tb8]
theorem tb8_congr {f g : Nat → Int} (h : ∀ k, k < 8 → f k = g k) : tb8 f = tb8 g := by
  unfold tb8; apply List.map_congr_left; intro x hx; rw [h x (List.mem_range.1 hx)]
theorem ordB_bad {l : List Int} {many k : Nat} (hk : k < l.length) (h : l.getD k 0 < 0 ∨ (many : Int) ≤ l.getD k 0) : ordB l many = false := by
  unfold ordB
  rw [all_false_of hk (by rcases h with h | h
                          · rw [decide_eq_false (show ¬ 0 ≤ l.getD k 0 by omega)]; rfl
                          · rw [decide_eq_false (show ¬ l.getD k 0 < (many : Int) by omega), Bool.and_false])]
  rfl
theorem ordered_ct (v : Value) (l : List Int) (many : Nat) (w : World) (hl : Ints w v l) (hm : many ≤ 8) :
    Ct Try.prog 25 #[v, .int .i64 (many : Int)] w fun u w' => u = .bool (ordB l many) ∧ Ex w w' := by
  have hlen := hl.len
  refine Exists.elim in_a8 fun ti hti => ?_
  refine enter (N := 39) (vs := [v, .int .i64 (many : Int)]) Try.func25 rfl rfl rfl ?_
  repeat (first | (refine isO ?_; refine s_assign ?_) | (refine isC ?_; refine c_sr ?_) | (refine l_th ?_))
  refine s_alloc (cs := List.replicate 8 (Value.int .i64 0)) hti.1 hti.2 rfl ?_
  intro b5 w1 hb5 hA5 hx1 hs1
  refine s_alloc (cs := List.replicate 8 (Value.int .i64 0)) hti.1 hti.2 rfl ?_
  intro b6 w2 hb6 hA6 hx2 hs2
  have hx02 := hx1.trans hx2
  have hA52 := hA5.ex hx2
  rw [tb8_zero] at hA52 hA6
  have hne : b5 ≠ b6 := by omega
  have z1 := hx1.size
  repeat (first | (refine isO ?_; refine s_move ?_) | (refine isC ?_; first | refine c_sr ?_ | refine c_seq ?_ | refine c_block ?_) | (refine l_th ?_))
  refine c_loop (γ := Nat) 129152 (fun i => [(11, .int .i64 (i : Int))]) (fun i W => i ≤ many ∧ At W b5 78 (tb8 (fun _ => 0)) ∧ At W b6 78 (tb8 (fun k => if k < i then 1 else 0)) ∧ Ex w W) (fun i => many - i) 0 ⟨rfl, trivial⟩ ⟨Nat.zero_le _, hA52, by rw [tb8_congr (g := fun _ => 0) (fun k _ => by simp)]; exact hA6, hx02⟩ ?_
  rintro i ρ W ⟨hi, hAa, hAb, hx⟩
  repeat (first | (refine isO ?_; (refine isBin ?_; refine s_lss rfl rfl ?_)) | (refine isC ?_; first | refine c_sr ?_ | refine c_seq ?_) | (refine l_th ?_))
  refine c_ifd rfl (fun h => ?_) (fun h => ?_)
  · have hi' : i < many := by omega
    have hi8 : i < 8 := by omega
    repeat (first | (refine isO ?_; first | refine s_move ?_ | refine s_assign ?_) | (refine isC ?_; first | refine c_sr ?_ | refine c_th ?_ | refine c_seq ?_ | refine c_region ?_ | refine c_block ?_) | (refine l_th ?_))
    refine s_iaV (n := i) u_a8 ty_int rfl rfl hi8 ?_
    refine s_stA (n := i) (u := .int .i64 1) ty_int rfl rfl rfl hAb (by rw [tb8_len]; exact hi8) ?_
    intro W2 hAb2 hg2
    rw [tb8_set _ _ hi8, tb8_congr (g := fun k => if k < i + 1 then 1 else 0) (fun k _ => by
      unfold fset
      by_cases e : k = i
      · rw [if_pos e, if_pos (by omega)]
      · rw [if_neg e]
        show (if k < i then (1 : Int) else 0) = _
        by_cases e2 : k < i
        · rw [if_pos e2, if_pos (by omega)]
        · rw [if_neg e2, if_neg (by omega)])] at hAb2
    repeat (first | (refine isO ?_; first | refine s_move ?_ | (refine isBin ?_; refine s_inc rfl (by omega) ?_)) | (refine isC ?_; refine c_region ?_) | (first | refine l_th ?_ | refine l_nil ?_))
    exact loop_end (i + 1) (by (repeat (first | exact agree_refl _ _ | refine agree_upd rfl ?_ | refine agree_ext rfl ?_ | refine agree_mask rfl ?_))) ⟨rfl, trivial⟩ ⟨hi', hAa.grown hg2 (fun e => hne (Option.some.inj e).symm), hAb2, hx.store hg2 (by omega)⟩ (by omega)
  · have him : i = many := by omega
    subst him
    have hlW := hl.ex hx
    repeat (first | (refine isO ?_; first | refine s_move ?_ | (refine isCall ?_; refine s_lenI sl_ints rfl (by assumption) ?_)) | (refine isC ?_; first | refine c_sr ?_ | refine c_seq ?_ | refine c_block ?_ | refine c_exit ?_) | (refine l_th ?_))
    refine c_loop (γ := Nat) 68718952976 (fun j => [(19, .int .i64 (j : Int))]) (fun j W' => j ≤ l.length ∧ At W' b5 78 (tb8 (fun k => (((l.take j).count (k : Int) : Nat) : Int))) ∧ At W' b6 78 (tb8 (fun k => if k < i then 1 else 0)) ∧ ((l.take j).all fun n => decide (0 ≤ n) && decide (n < (i : Int))) = true ∧ Ex w W') (fun j => l.length - j) 0 ⟨rfl, trivial⟩ ⟨Nat.zero_le _, hAa, hAb, rfl, hx⟩ ?_
    rintro j ρ2 W2 ⟨hj, hAa2, hAb2, hall, hx2⟩
    have hl2 := hl.ex hx2
    repeat (first | (refine isO ?_; (refine isBin ?_; refine s_lss rfl rfl ?_)) | (refine isC ?_; first | refine c_sr ?_ | refine c_seq ?_) | (refine l_th ?_))
    refine c_ifd rfl (fun h2 => ?_) (fun h2 => ?_)
    · have hj' : j < l.length := by omega
      have hst := all_take_step l (fun n => decide (0 ≤ n) && decide (n < (i : Int))) j hj'
      by_cases h3 : l.getD j 0 < 0
      · have hbad := ordB_bad (many := i) hj' (.inl h3)
        repeat (first | (refine isO ?_; first | refine s_move ?_ | refine s_assign ?_ | (refine isG ?_; refine g_no rfl rfl rfl ?_) | (refine isBin ?_; refine s_lssT rfl rfl (by omega) ?_) | (refine isIA ?_; refine s_ixI sl_ints ty_int rfl rfl rfl (by assumption) (by omega) ?_; intro _) | (refine isPick ?_; refine s_pickt rfl rfl ?_)) | (refine isC ?_; first | refine c_sr ?_ | refine c_th ?_ | refine c_seq ?_ | refine c_ift rfl ?_ | refine c_block ?_ | refine c_ret ?_) | (first | refine l_th ?_ | refine th_ret ?_ | refine ib_ret ?_))
        exact ret1 rfl rfl ⟨vbool hbad.symm, hx2⟩
      · by_cases h4 : (i : Int) ≤ l.getD j 0
        · have hbad := ordB_bad (many := i) hj' (.inr h4)
          repeat (first | (refine isO ?_; first | refine s_move ?_ | refine s_assign ?_ | (refine isG ?_; refine g_yes rfl rfl ?_) | (refine isBin ?_; first | refine s_lssF rfl rfl (by omega) ?_ | refine s_geqT rfl rfl (by omega) ?_) | (refine isIA ?_; refine s_ixI sl_ints ty_int rfl rfl rfl (by assumption) (by omega) ?_; intro _) | (refine isPick ?_; refine s_pickf rfl rfl ?_)) | (refine isC ?_; first | refine c_sr ?_ | refine c_th ?_ | refine c_seq ?_ | refine c_ift rfl ?_ | refine c_block ?_ | refine c_ret ?_) | (first | refine l_th ?_ | refine th_ret ?_ | refine ib_ret ?_))
          exact ret1 rfl rfl ⟨vbool hbad.symm, hx2⟩
        · refine Exists.elim (show ∃ q : Nat, l.getD j 0 = (q : Int) from ⟨(l.getD j 0).toNat, by omega⟩) fun q hq => ?_
          have hq8 : q < 8 := by omega
          have hcb : (l.take j).count (q : Int) ≤ j := Nat.le_trans List.count_le_length (by rw [List.length_take]; omega)
          have hgood : (decide (0 ≤ l.getD j 0) && decide (l.getD j 0 < (i : Int))) = true := by rw [decide_eq_true (by omega), decide_eq_true (by omega)]; rfl
          rw [hall, hgood] at hst
          repeat (first | (refine isO ?_; first | refine s_move ?_ | refine s_assign ?_ | (refine isG ?_; refine g_yes rfl rfl ?_) | (refine isBin ?_; first | refine s_lssF rfl rfl (by omega) ?_ | refine s_geqF rfl rfl (by omega) ?_) | (refine isIA ?_; refine s_ixI sl_ints ty_int rfl rfl rfl (by assumption) (by omega) ?_; intro _) | (refine isPick ?_; refine s_pickf rfl rfl ?_)) | (refine isC ?_; first | refine c_sr ?_ | refine c_th ?_ | refine c_seq ?_ | refine c_region ?_ | refine c_iff rfl ?_ | refine c_block ?_) | (refine l_th ?_))
          refine s_iaV (n := q) u_a8 ty_int rfl (vint hq) hq8 ?_
          refine s_ldA ty_int rfl hAa2 (tb8_get _ hq8) ?_
          refine s_inc rfl (by omega) ?_
          refine s_iaV (n := q) u_a8 ty_int rfl (vint hq) hq8 ?_
          refine s_stA (n := q) (u := .int .i64 (((l.take j).count (q : Int) + 1 : Nat) : Int)) ty_int rfl rfl rfl hAa2 (by rw [tb8_len]; exact hq8) ?_
          intro W3 hAa3 hg3
          rw [tb8_set _ _ hq8, tb8_congr (g := fun k => (((l.take (j + 1)).count (k : Int) : Nat) : Int)) (fun k _ => by
            have e0 : l.take (j + 1) = l.take j ++ [(q : Int)] := by
              rw [List.take_succ_eq_append_getElem hj']
              congr 1
              rw [← hq]; simp [List.getD_eq_getElem?_getD, hj']
            rw [e0, List.count_append]
            unfold fset
            by_cases e : k = q
            · subst e; rw [if_pos rfl]; simp
            · rw [if_neg e, List.count_singleton, if_neg (by simp; omega)]; simp)] at hAa3
          repeat (first | (refine isO ?_; first | refine s_move ?_ | (refine isBin ?_; refine s_inc rfl (by omega) ?_)) | (refine isC ?_; refine c_region ?_) | (first | refine l_th ?_ | refine l_nil ?_))
          exact loop_end (j + 1) (by (repeat (first | exact agree_refl _ _ | refine agree_upd rfl ?_ | refine agree_ext rfl ?_ | refine agree_mask rfl ?_))) ⟨rfl, trivial⟩ ⟨hj', hAa3, hAb2.grown hg3 (fun e => hne (Option.some.inj e)), hst, hx2.store hg3 (by omega)⟩ (by omega)
    · rw [List.take_of_length_le (by omega)] at hall
      have e5 : l.take j = l := List.take_of_length_le (by omega)
      rw [e5] at hAa2
      repeat ((refine isC ?_; first | refine c_sr ?_ | refine c_exit ?_))
      refine s_ldV u_a8 rfl (by rw [tb8_len]; exact sz_a8) rfl hAa2 ?_
      refine s_ldV u_a8 rfl (by rw [tb8_len]; exact sz_a8) rfl hAb2 ?_
      refine s_eqlA (k := .i64) u_a8 Try.underlying3 (by kernel_rfl) (by kernel_rfl) (by kernel_rfl) (by kernel_rfl) (by simp) (by simp) (congrArg (fun z : List Value => Value.agg z.toArray) (tb8_map _)) (congrArg (fun z : List Value => Value.agg z.toArray) (tb8_map _)) ?_
      repeat (first | (refine isO ?_; refine s_assign ?_) | (refine isC ?_; refine c_ret ?_) | (refine l_th ?_))
      exact ret1 rfl rfl ⟨vbool (by unfold ordB; rw [hall, Bool.true_and]), hx2⟩
/-- A market in memory. -/
structure Mk (w : World) (rv bv ov : Value) (res : List Int) (bids : List (List Int)) (ord : List Int) : Prop where
  r : Ints w rv res
  b : Rows w bv bids
  o : Ints w ov ord
theorem Mk.ex {w w' : World} {rv bv ov : Value} {res : List Int} {bids : List (List Int)} {ord : List Int} (h : Mk w rv bv ov res bids ord) (hx : Ex w w') : Mk w' rv bv ov res bids ord := ⟨h.r.ex hx, h.b.ex hx, h.o.ex hx⟩
theorem mcheck1_ct (u : Value) (l : List Int) (b : Nat) (items : Int) (w : World) (hl : Ints w u l) (hb : At w b 3 [.int .i64 items]) (hi : In64 (items - 1)) :
    Ct Try.prog 27 #[u, .pointer (some ⟨b, 0, none⟩)] w fun v w' => v = .bool (badBid items l) ∧ Ex w w' := by
  refine enter (N := 13) (vs := [u, .pointer (some ⟨b, 0, none⟩)]) Try.func27 rfl rfl rfl ?_
  by_cases h1 : 0 < (l.length : Int)
  · repeat (first | (refine isO ?_; first | refine s_move ?_ | refine s_assign ?_ | (refine isG ?_; refine g_yes rfl rfl ?_) | (refine isBin ?_; refine s_gtrT rfl rfl (by omega) ?_) | (refine isCall ?_; refine s_lenI sl_ints rfl (by assumption) ?_) | (refine isLD ?_; refine s_ldA ty_int rfl (by assumption) rfl ?_)) | (refine isC ?_; refine c_sr ?_) | (refine l_th ?_))
    refine s_call ok_vcheck rfl (vcheck_ct u l items w hl hi) ?_
    rintro v w' ⟨rfl, hx⟩
    repeat (first | (refine isO ?_; first | refine s_assign ?_ | (refine isG ?_; refine g_yes rfl rfl ?_) | (refine isPick ?_; refine s_pickt rfl rfl ?_) | refine s_not rfl ?_) | (refine isC ?_; refine c_ret ?_) | (refine l_th ?_))
    exact ret1 rfl rfl ⟨vbool (by unfold badBid; rw [decide_eq_true (show 0 < l.length by omega)]; rfl), hx⟩
  · repeat (first | (refine isO ?_; first | refine s_move ?_ | refine s_assign ?_ | (refine isG ?_; refine g_no rfl rfl rfl ?_) | (refine isBin ?_; refine s_gtrF rfl rfl (by omega) ?_) | (refine isCall ?_; refine s_lenI sl_ints rfl (by assumption) ?_) | (refine isPick ?_; refine s_pickf rfl rfl ?_)) | (refine isC ?_; first | refine c_sr ?_ | refine c_ret ?_) | (refine l_th ?_))
    exact ret1 rfl rfl ⟨vbool (by unfold badBid; rw [decide_eq_false (show ¬ 0 < l.length by omega)]; rfl), Ex.refl _⟩
set_option maxHeartbeats 1000000 in
theorem mcheck_ct (rv bv ov : Value) (res : List Int) (bids : List (List Int)) (ord : List Int) (w : World) (hM : Mk w rv bv ov res bids ord) :
    Ct Try.prog 10 #[.agg #[rv, bv, ov]] w fun u w' => u = .bool (chkM res bids ord) ∧ Ex w w' := by
  have hlr := hM.r.len
  have hlb := hM.b.len
  have hi64 : In64 ((res.length : Int) - 1) := ⟨by omega, by omega⟩
  refine Exists.elim in_int' fun ti hti => ?_
  refine enter (N := 36) (vs := [.agg #[rv, bv, ov]]) Try.func10 rfl rfl rfl ?_
  repeat ((refine isC ?_; refine c_sr ?_))
  refine s_box (cs := [rv, bv, ov]) rfl rfl ?_
  intro b0 w0 hb0 hZ hx0 hs0
  have hM0 := hM.ex hx0
  have hr0 := hM0.r
  have hbb0 := hM0.b
  repeat (first | (refine isO ?_; refine s_assign ?_) | (refine isC ?_; refine c_seq ?_) | (refine l_th ?_))
  refine c_drawO (Ex.refl w0) 0 8 [(0, true), (1, true), (2, true), (3, true), (4, true), (5, true), (6, false), (7, false), (8, true)] mixed (by kernel_rfl) ?_
  have hxd := Ex.drew w0
  refine d_fa rfl Try.underlying25 rfl ty_ints rfl ?_
  refine d_ldA rfl ty_ints rfl hZ rfl ?_
  refine d_lenIO rfl sl_ints rfl hr0 ?_
  refine d_fa rfl Try.underlying25 rfl ty_rows rfl ?_
  refine d_ldA rfl ty_rows rfl hZ rfl ?_
  refine d_lenRO rfl sl_rows rfl hbb0 ?_
  refine d_ch rfl ?_
  refine s_alloc (cs := [.int .i64 0]) hti.1 hti.2.1 rfl ?_
  intro b3 w1 hb3 hA3 hx1 hs1
  have hx01 := hxd.trans hx1
  refine l_nil ⟨rfl, .inr hx01, ?_⟩
  refine d_ch rfl ?_
  refine s_stA (n := 0) (u := .int .i64 (res.length : Int)) ty_int rfl rfl rfl hA3 (by simp) ?_
  intro w2 hA32 hg2
  have zd := hxd.size
  have hx2 : Ex w0 w2 := hx01.store hg2 (by omega)
  refine l_nil ⟨rfl, .inr hx2, ?_⟩
  refine d_assign rfl ?_
  refine d_nil ?_
  have hZ2 := hZ.ex hx2
  have hM2 := hM0.ex hx2
  have hA3' : At w2 b3 3 [.int .i64 (res.length : Int)] := hA32
  repeat (first | (refine isO ?_; (refine isLD ?_; first | refine s_ldA ty_int rfl (by assumption) rfl ?_ | refine s_ldA ty_ints rfl (by assumption) rfl ?_)) | (refine isO ?_; refine s_fa Try.underlying25 rfl ty_ints rfl ?_) | (refine isC ?_; refine c_sr ?_))
  refine s_call ok_vcheck rfl (vcheck_ct rv res (res.length : Int) w2 hM2.r hi64) ?_
  rintro u w3 ⟨rfl, hx3⟩
  have hx03 := hx2.trans hx3
  refine Or.elim (tfV (vecB res res.length)) (fun hb => ?_) (fun hb => ?_)
  · refine s_re (v' := .bool true) (vbool hb) ?_
    by_cases h1 : (1 : Int) ≤ (bids.length : Int)
    · by_cases h2 : (bids.length : Int) ≤ 8
      · have hZ3 := hZ.ex hx03
        have hM3 := hM0.ex hx03
        repeat (first | (refine isO ?_; first | refine s_move ?_ | (refine isG ?_; refine g_yes rfl rfl ?_) | (refine isBin ?_; first | refine s_leqT rfl rfl (by omega) ?_ | refine s_geqT rfl rfl (by omega) ?_) | (refine isPick ?_; refine s_pickt rfl rfl ?_) | (refine isLD ?_; refine s_ldA ty_ints rfl (by assumption) rfl ?_)) | (refine isO ?_; refine s_fa Try.underlying25 rfl ty_ints rfl ?_))
        refine s_call ok_ordered rfl (ordered_ct ov ord bids.length w3 hM3.o (by omega)) ?_
        rintro u w4 ⟨rfl, hx4⟩
        have hx04 := hx03.trans hx4
        refine Or.elim (tfV (ordB ord bids.length)) (fun hb2 => ?_) (fun hb2 => ?_)
        · refine s_re (v' := .bool true) (vbool hb2) ?_
          have hZ4 := hZ.ex hx04
          have hM4 := hM0.ex hx04
          have hA34 := hA3'.ex (hx3.trans hx4)
          repeat (first | (refine isO ?_; first | refine s_move ?_ | (refine isG ?_; refine g_yes rfl rfl ?_) | (refine isPick ?_; refine s_pickt rfl rfl ?_)) | (refine isO ?_; first | refine s_fa Try.underlying25 rfl ty_rows rfl ?_ | refine s_ldA ty_rows rfl (by assumption) rfl ?_))
          refine s_mkfn (vs := [.pointer (some ⟨b3, 0, none⟩)]) rfl ?_
          repeat ((refine isO ?_; (refine isG ?_; refine g_yes rfl rfl ?_)))
          refine s_call ok_cfR rfl (cfR_ct bv bids 27 [.pointer (some ⟨b3, 0, none⟩)] (badBid res.length) w4 hM4.b ⟨ok_mcheck1, fun u l w5 h5 hu => mcheck1_ct u l _ _ w5 hu (hA34.ex h5) hi64⟩) ?_
          rintro u w5 ⟨rfl, hx5⟩
          repeat (first | (refine isO ?_; first | refine s_assign ?_ | (refine isG ?_; refine g_yes rfl rfl ?_) | (refine isPick ?_; refine s_pickt rfl rfl ?_) | refine s_not rfl ?_) | (refine isC ?_; refine c_ret ?_) | (refine l_th ?_))
          exact ret1 rfl rfl ⟨vbool (by unfold chkM; rw [hb, hb2, decide_eq_true (show 1 ≤ bids.length by omega), decide_eq_true (show bids.length ≤ 8 by omega)]; rfl), hx0.trans (hx04.trans hx5)⟩
        · refine s_re (v' := .bool false) (vbool hb2) ?_
          repeat (first | (refine isO ?_; first | refine s_move ?_ | refine s_assign ?_ | (refine isG ?_; refine g_no rfl rfl rfl ?_) | (refine isPick ?_; first | refine s_pickt rfl rfl ?_ | refine s_pickf rfl rfl ?_)) | (refine isC ?_; refine c_ret ?_) | (refine l_th ?_))
          exact ret1 rfl rfl ⟨vbool (by unfold chkM; rw [hb2]; simp), hx0.trans hx04⟩
      · repeat (first | (refine isO ?_; first | refine s_move ?_ | refine s_assign ?_ | (refine isG ?_; first | refine g_yes rfl rfl ?_ | refine g_no rfl rfl rfl ?_) | (refine isBin ?_; first | refine s_leqF rfl rfl (by omega) ?_ | refine s_geqT rfl rfl (by omega) ?_) | (refine isPick ?_; first | refine s_pickt rfl rfl ?_ | refine s_pickf rfl rfl ?_)) | (refine isC ?_; refine c_ret ?_) | (refine l_th ?_))
        exact ret1 rfl rfl ⟨vbool (by unfold chkM; rw [decide_eq_false (show ¬ bids.length ≤ 8 by omega)]; simp), hx0.trans hx03⟩
    · repeat (first | (refine isO ?_; first | refine s_move ?_ | refine s_assign ?_ | (refine isG ?_; first | refine g_yes rfl rfl ?_ | refine g_no rfl rfl rfl ?_) | (refine isBin ?_; refine s_geqF rfl rfl (by omega) ?_) | (refine isPick ?_; first | refine s_pickt rfl rfl ?_ | refine s_pickf rfl rfl ?_)) | (refine isC ?_; refine c_ret ?_) | (refine l_th ?_))
      exact ret1 rfl rfl ⟨vbool (by unfold chkM; rw [decide_eq_false (show ¬ 1 ≤ bids.length by omega)]; simp), hx0.trans hx03⟩
  · refine s_re (v' := .bool false) (vbool hb) ?_
    repeat (first | (refine isO ?_; first | refine s_move ?_ | refine s_assign ?_ | (refine isG ?_; refine g_no rfl rfl rfl ?_) | (refine isPick ?_; refine s_pickf rfl rfl ?_)) | (refine isC ?_; refine c_ret ?_) | (refine l_th ?_))
    exact ret1 rfl rfl ⟨vbool (by unfold chkM; rw [hb]; simp), hx0.trans hx03⟩
end Go.Proofs.Ytifbgpkjbciblaa.Sal
end
section
/- How the arguments of the laws of the rises read. -/
set_option maxRecDepth 100000
namespace Go.Proofs.Ytifbgpkjbciblaa.Sal
open Go.RowKit Go.Deep Go.ChangeShapes Go.WideShapes Go.ChangeAt Go.Joins
set_option linter.all false
theorem own : ownKnob Try.prog.godebug = none := by kernel_rfl
theorem laidOut : laidOutB Try.prog = true := by kernel_rfl
section
variable {H : Type} {enc : TypeId × Value → H} {w : World} {base : Nat} {spare : Nat → Bool} {held : Bool} {r : Reach} {b0 : Nat} {v : Value} {d : DataW H} {p : List MemPlace}
theorem array6 {α : Type} {cs : Array α} (h : cs.size = 6) : ∃ c0 c1 c2 c3 c4 c5, cs = #[c0, c1, c2, c3, c4, c5] := by
  obtain ⟨l⟩ := cs
  match l, h with
  | [c0, c1, c2, c3, c4, c5], _ => exact ⟨c0, c1, c2, c3, c4, c5, rfl⟩
theorem open_up (hv : Value.okWide Try.prog w r b0 44 v) (h : DataW.Trod enc Try.prog w base spare held 44 v d p) (hw : ∀ n ∈ d.weights Try.prog 44, n ≤ reachBytes) :
    ∃ (rv bv ov : Value) (res : List Int) (bids : List (List Int)) (ord : List Int) (xa xb xc : Nat), v = .agg #[rv, bv, ov, .int .u8 (xa : Int), .int .u8 (xb : Int), .int .u16 (xc : Int)] ∧ Mk w rv bv ov res bids ord ∧ xa < 256 ∧ xb < 256 ∧ xc < 65536 := by
  have hc : Try.prog.cellsOf 44 = 6 := by kernel_rfl
  have hcm : Try.prog.cellsOf 25 = 3 := by kernel_rfl
  have hc8 : Try.prog.cellsOf 5 = 1 := by kernel_rfl
  have hc16 : Try.prog.cellsOf 41 = 1 := by kernel_rfl
  have hci : Try.prog.cellsOf 22 = 1 := by kernel_rfl
  have hcr : Try.prog.cellsOf 23 = 1 := by kernel_rfl
  obtain ⟨cs, rfl, hsz⟩ := okWide_struct Try.underlying44 hv
  obtain ⟨c0, c1, c2, c3, c4, c5, rfl⟩ := array6 (hsz.trans hc)
  obtain ⟨fuel, hf⟩ := h
  have hcells : (Value.agg #[c0, c1, c2, c3, c4, c5]).cells.toList = [c0, c1, c2, c3, c4, c5] := rfl
  rw [hcells] at hf
  obtain ⟨y0, y1, y2, y3, n, hx, _, h0, h1, h2, h3⟩ := trod_struct4 Try.underlying44 hf
  simp only [hcm, hc8, hc16, List.drop_zero, List.take_succ_cons, List.take_zero, List.drop_succ_cons] at h0 h1 h2 h3
  simp only [Prod.mk.injEq] at hx
  obtain ⟨rfl, _⟩ := hx
  obtain ⟨z0, z1, z2, m, hx0, _, g0, g1, g2⟩ := trod_struct3 Try.underlying25 h0
  simp only [hci, hcr, List.drop_zero, List.take_succ_cons, List.take_zero, List.drop_succ_cons] at g0 g1 g2
  simp only [hx0] at hw
  have hw0 : ∀ n ∈ z0.1.weights Try.prog 22, n ≤ reachBytes := fun n hn => hw n (by
    simp only [DataW.weights, Try.underlying44, Try.underlying25, List.map, DataW.weightsEach, List.mem_append]
    exact .inl (.inl hn))
  have hw1 : ∀ n ∈ z1.1.weights Try.prog 23, n ≤ reachBytes := fun n hn => hw n (by
    simp only [DataW.weights, Try.underlying44, Try.underlying25, List.map, DataW.weightsEach, List.mem_append]
    exact .inl (.inr (.inl hn)))
  have hw2 : ∀ n ∈ z2.1.weights Try.prog 22, n ≤ reachBytes := fun n hn => hw n (by
    simp only [DataW.weights, Try.underlying44, Try.underlying25, List.map, DataW.weightsEach, List.mem_append]
    exact .inl (.inr (.inr (.inl hn))))
  obtain ⟨res, hr, _⟩ := read_ints Try.underlying22 Try.underlying3 (by kernel_rfl) (of_decide_eq_true (by kernel_rfl)) g0 hw0
  obtain ⟨bids, hb, _⟩ := read_rows Try.underlying23 Try.underlying22 Try.underlying3 (by kernel_rfl) (by kernel_rfl) (of_decide_eq_true (by kernel_rfl)) (of_decide_eq_true (by kernel_rfl)) g1 hw1
  obtain ⟨ord, ho, _⟩ := read_ints Try.underlying22 Try.underlying3 (by kernel_rfl) (of_decide_eq_true (by kernel_rfl)) g2 hw2
  obtain ⟨a, ha, _, wa⟩ := DataW.trod_int Try.underlying5 h1
  obtain ⟨b, hb', _, wb⟩ := DataW.trod_int Try.underlying5 h2
  obtain ⟨c, hc', _, wc⟩ := DataW.trod_int Try.underlying41 h3
  simp only [List.cons.injEq, and_true] at ha hb' hc'
  subst ha
  subst hb'
  subst hc'
  simp [Lit.wf, IntKind.min, IntKind.max, IntKind.signed, IntKind.bits] at wa wb wc
  exact ⟨c0, c1, c2, res, bids, ord, a.toNat, b.toNat, c.toNat, by rw [Int.toNat_of_nonneg wa.1, Int.toNat_of_nonneg wb.1, Int.toNat_of_nonneg wc.1], ⟨hr, hb, ho⟩, by omega, by omega, by omega⟩
end
end Go.Proofs.Ytifbgpkjbciblaa.Sal
end
section
/- Core21: a region some of whose operations may go in any order: each is shown once, whatever went ahead. -/
set_option maxRecDepth 100000
namespace Go.Proofs.Ytifbgpkjbciblaa.Sal
set_option linter.all false
open Go.RowKit
section any
variable {r : Option Nat} {P : Program} {ops : Array Oper} {Q : Exit → Act → World → Prop}
theorem op_of_wl {K : Act → World → Prop} {i : Nat} {o : Oper} {a : Act} {w : World} (hi : ops[i]? = some o) (h : WL r P ops (fun e a' w' => e = .normal ∧ K a' w') [o] a w) : wpOpIn (FW r) 0 P ops (OnlyN Q) i K a w := by
  unfold wpOpIn
  simp only [hi]
  have h' : wpListIn (FW r) 0 P ops (fun e a' w' => e = .normal ∧ K a' w') [o] a w := h
  unfold wpListIn at h'
  have hk : ∀ (a' : Act) (w' : World), wpListIn (FW r) 0 P ops (fun e a' w' => e = Exit.normal ∧ K a' w') [] a' w' → K a' w' := fun a' w' hh => hh.2
  split at h'
  · rename_i hw
    simp only [hw, if_true]
    have h2 := Oper.wpIn_mono (Q := fun e a' w' => e = Exit.normal ∧ K a' w') hk h'
    unfold Oper.wpIn at *
    refine ⟨h2.1, ?_⟩
    have h3 := h2.2
    generalize (o.semAt (FW r).round a.eval).run P w = res at *
    cases res with
    | ok x w' =>
      cases x <;> simp only [Oper.uponIn] at h3 ⊢ <;> first
        | exact h3
        | exact ⟨h3.1, CallsIn.mono h3.2 (fun e w'' he => by cases e <;> first | exact he | exact absurd he.1 (by simp) | exact (let ⟨a, w, hh⟩ := he; absurd hh.1 (by simp)))⟩
        | exact ⟨h3.1, RoundIn.mono h3.2 (fun e w'' he => by cases e <;> first | exact he | exact absurd he.1 (by simp) | exact (let ⟨a, w, hh⟩ := he; absurd hh.1 (by simp)))⟩
    | halt x w' => cases x <;> simp only [Oper.uponIn] at h3 ⊢ <;> first | exact h3 | exact absurd h3.1 (by simp)
  · rename_i hw
    simp only [hw]
    exact ⟨h'.1, hk _ _ h'.2⟩
def anyOK (ops : Array Oper) (m : Nat) (dl : List Nat) : Bool :=
  Nat.beq ops.size (m + 1) && Nat.beq dl.length m && (List.range m).all (fun i => match ops[i]? with | some o => (o.dst == some (dl.getD i 0)) | none => false) &&
    (List.range (m + 1)).all (fun i => (deps ops i).all fun e => Nat.blt e i) && (List.range m).all (fun i => (deps ops m).contains i) &&
    (List.range m).all (fun i => (List.range m).all fun j => Nat.beq i j || !Nat.beq (dl.getD i 0) (dl.getD j 0))
structure AS (F : Nat → Nat → Nat → Value → World → Prop) (dl : List Nat) (m : Nat) (σ0 : Nat → Value) (w0 : World) (listed : Array Bool) (σ : Nat → Value) (w : World) (lo hi : Nat → Nat) : Prop where
  ex : Ex w0 w
  ag : ∀ t, (∀ i, i < m → t ≠ dl.getD i 0) → σ t = σ0 t
  fa : ∀ i, i < m → listed.getD i false = true → F i (lo i) (hi i) (σ (dl.getD i 0)) w
  bd : ∀ i, i < m → listed.getD i false = true → w0.heap.size ≤ lo i ∧ lo i ≤ hi i ∧ hi i ≤ w.heap.size
  di : ∀ i j, i < m → j < m → i ≠ j → listed.getD i false = true → listed.getD j false = true → hi i ≤ lo j ∨ hi j ≤ lo i
def cl (listed : Array Bool) : Nat → Nat
  | 0 => 0
  | n + 1 => cl listed n + if listed.getD n false = true then 1 else 0
theorem cl_le (listed : Array Bool) : ∀ n, cl listed n ≤ n
  | 0 => Nat.le_refl _
  | n + 1 => by have := cl_le listed n; simp only [cl]; split <;> omega
theorem cl_lt {listed : Array Bool} {i : Nat} (h : listed.getD i false = false) : ∀ n, i < n → cl listed n < n
  | n + 1, hi => by
    simp only [cl]
    by_cases e : i = n
    · subst e; rw [h]; have := cl_le listed i; simp; omega
    · have := cl_lt h n (by omega); split <;> omega
theorem set_get {listed : Array Bool} {i j : Nat} (hi : i < listed.size) : (listed.setIfInBounds i true).getD j false = if j = i then true else listed.getD j false := by
  simp only [Array.getD_eq_getD_getElem?, Array.getElem?_setIfInBounds]
  by_cases e : i = j
  · subst e; simp [hi]
  · have : ¬ j = i := fun h => e h.symm
    simp [e, this]
theorem cl_same {listed : Array Bool} {i : Nat} (hi : i < listed.size) : ∀ n, n ≤ i → cl (listed.setIfInBounds i true) n = cl listed n
  | 0, _ => rfl
  | n + 1, h => by
    have h1 := set_get (j := n) hi
    rw [if_neg (show ¬ n = i by omega)] at h1
    simp only [cl]; rw [cl_same hi n (by omega), h1]
theorem cl_set {listed : Array Bool} {i : Nat} (hi : i < listed.size) (h : listed.getD i false = false) : ∀ n, i < n → cl (listed.setIfInBounds i true) n = cl listed n + 1
  | n + 1, hn => by
    have h1 := set_get (j := n) hi
    simp only [cl]
    by_cases e : n = i
    · subst e
      rw [if_pos rfl] at h1
      rw [cl_same hi n (Nat.le_refl _), h1, h]; simp
    · rw [if_neg e] at h1
      rw [cl_set hi h n (by omega), h1]; omega
theorem first_un {listed : Array Bool} : ∀ n, listed.getD n false = false → ∃ i, i ≤ n ∧ listed.getD i false = false ∧ ∀ j, j < i → listed.getD j false = true := by
  intro n
  induction n using Nat.strongRecOn with
  | ind n ih =>
    intro h
    by_cases hj : ∃ j, j < n ∧ listed.getD j false = false
    · obtain ⟨j, h1, h2⟩ := hj
      obtain ⟨i, h3, h4, h5⟩ := ih j h1 h2
      exact ⟨i, by omega, h4, h5⟩
    · refine ⟨n, Nat.le_refl _, h, fun j h1 => ?_⟩
      cases hb : listed.getD j false with
      | true => rfl
      | false => exact absurd ⟨j, h1, hb⟩ hj
section go
variable {N m : Nat} {dl : List Nat} {F : Nat → Nat → Nat → Value → World → Prop} {σ0 : Nat → Value} {ds : List Deferred} {w0 : World}
theorem any_go (hok : anyOK ops m dl = true) (hF : ∀ i lo hi v w w', F i lo hi v w → Ex w w' → F i lo hi v w')
    (hstep : ∀ i, i < m → ∀ σ w, Ex w0 w → (∀ t, (∀ i, i < m → t ≠ dl.getD i 0) → σ t = σ0 t) → (∀ e, (deps ops i).contains e = true → ∃ lo hi, w0.heap.size ≤ lo ∧ lo ≤ hi ∧ hi ≤ w.heap.size ∧ F e lo hi (σ (dl.getD e 0)) w) →
      ∃ o, ops[i]? = some o ∧ WL r P ops (fun e a' w' => e = .normal ∧ ∃ v, a' = mk N (upd σ (dl.getD i 0) v) ds ∧ Ex w w' ∧ F i w.heap.size w'.heap.size v w') [o] (mk N σ ds) w)
    (hlast : ∀ (σ : Nat → Value) (w : World) (lo hi : Nat → Nat), Ex w0 w → (∀ t, (∀ i, i < m → t ≠ dl.getD i 0) → σ t = σ0 t) → (∀ i, i < m → F i (lo i) (hi i) (σ (dl.getD i 0)) w ∧ w0.heap.size ≤ lo i ∧ lo i ≤ hi i ∧ hi i ≤ w.heap.size) → (∀ i j, i < m → j < m → i ≠ j → hi i ≤ lo j ∨ hi j ≤ lo i) →
      ∃ o, ops[m]? = some o ∧ WL r P ops (fun e a' w' => e = .normal ∧ Q .normal a' w') [o] (mk N σ ds) w) :
    ∀ (fuel : Nat) (listed : Array Bool) (σ : Nat → Value) (w : World) (lo hi : Nat → Nat), listed.size = ops.size → listed.getD m false = false → fuel + cl listed (m + 1) = m + 1 → AS F dl m σ0 w0 listed σ w lo hi → wpAnyIn (FW r) 0 P .any ops Q fuel listed (mk N σ ds) w := by
  simp only [anyOK, Bool.and_eq_true, List.all_eq_true] at hok
  obtain ⟨⟨⟨⟨⟨c1, c2⟩, c3⟩, c4⟩, c5⟩, c6⟩ := hok
  have hsz : ops.size = m + 1 := Nat.eq_of_beq_eq_true c1
  have hdep : ∀ i, i < m + 1 → ∀ e ∈ deps ops i, e < i := fun i hi e he => Nat.le_of_ble_eq_true (c4 i (List.mem_range.2 hi) e he)
  have hall : ∀ i, i < m → i ∈ deps ops m := fun i hi => by have := c5 i (List.mem_range.2 hi); simpa using this
  have hinj : ∀ i j, i < m → j < m → i ≠ j → dl.getD i 0 ≠ dl.getD j 0 := fun i j hi hj hne e => by
    have h1 := c6 i (List.mem_range.2 hi) j (List.mem_range.2 hj)
    rw [Bool.or_eq_true] at h1
    rcases h1 with h1 | h1
    · exact hne (Nat.eq_of_beq_eq_true h1)
    · rw [e] at h1
      have : Nat.beq (dl.getD j 0) (dl.getD j 0) = true := Nat.beq_refl _
      rw [this] at h1; cases h1
  intro fuel
  induction fuel with
  | zero =>
    intro listed σ w lo hi hls hm hf _
    have := cl_lt hm (m + 1) (Nat.lt_succ_self _)
    omega
  | succ fuel ih =>
    intro listed σ w lo hi hls hm hf hA
    have hin : ∀ i, i < m + 1 → listed.getD i false = false → (∀ e ∈ deps ops i, listed.getD e false = true) → i ∈ Region.ready .any ops listed := fun i hi hu hd => by
      have hlt : i < ops.size := by omega
      refine mem_ready.2 ⟨?_, ops[i], by simp [hlt], fun e he hb => ?_⟩
      · have hl : i < listed.size := by omega
        simp only [Array.getD_eq_getD_getElem?, Array.getElem?_eq_getElem hl, Option.getD_some] at hu ⊢
        exact hu
      · exact hd _ (deps_mem (o := ops[i]) (by simp [hlt]) he hb)
    refine ⟨fun hr => ?_, fun i hir => ?_⟩
    · exfalso
      obtain ⟨i, h1, h2, h3⟩ := first_un m hm
      have := hin i (by omega) h2 fun e he => h3 e (hdep i (by omega) e he)
      rw [hr] at this; cases this
    · have hul := unlisted hir
      have hlt : i < m + 1 := by
        have := (List.mem_filter.1 hir).1
        have := List.mem_range.1 this
        omega
      have hrd := ready_deps hir
      by_cases him : i = m
      · subst him
        obtain ⟨o, ho, hW⟩ := hlast σ w lo hi hA.ex hA.ag (fun j hj => ⟨hA.fa j hj (hrd j (hall j hj)), hA.bd j hj (hrd j (hall j hj))⟩) (fun j k hj hk hne => hA.di j k hj hk hne (hrd j (hall j hj)) (hrd k (hall k hk)))
        refine wpOpIn_monoQ onlyN_mono (op_of_wl ho (l_mono (fun e a' w' hh => ⟨hh.1, ?_⟩) [o] _ _ hW))
        have hnone : Region.ready .any ops (listed.setIfInBounds i true) = [] := by
          rw [List.eq_nil_iff_forall_not_mem]
          intro k hk
          have h1 := unlisted hk
          have h2 : k < i + 1 := by have := List.mem_range.1 (List.mem_filter.1 hk).1; omega
          rw [set_get (by omega)] at h1
          by_cases e : k = i
          · rw [if_pos e] at h1; cases h1
          · rw [if_neg e, hrd k (hall k (by omega))] at h1; cases h1
        cases fuel with
        | zero => exact ⟨hnone, hh.2⟩
        | succ f => exact ⟨fun _ => hh.2, fun k hk => by rw [hnone] at hk; cases hk⟩
      · have him' : i < m := by omega
        obtain ⟨o, ho, hW⟩ := hstep i him' σ w hA.ex hA.ag fun e he => by
          have he' : e ∈ deps ops i := by simpa using he
          have h1 := hdep i hlt e he'
          have h2 := hrd e he'
          exact ⟨lo e, hi e, (hA.bd e (by omega) h2).1, (hA.bd e (by omega) h2).2.1, (hA.bd e (by omega) h2).2.2, hA.fa e (by omega) h2⟩
        refine wpOpIn_monoQ onlyN_mono (op_of_wl ho (l_mono (fun e a' w' hh => ⟨hh.1, ?_⟩) [o] _ _ hW))
        obtain ⟨v, rfl, hx, hFi⟩ := hh.2
        have hls' : i < listed.size := by omega
        have hz := hx.size
        refine ih (listed.setIfInBounds i true) (upd σ (dl.getD i 0) v) w' (fs lo i w.heap.size) (fs hi i w'.heap.size) (by simpa using hls) (by rw [set_get hls', if_neg (by omega)]; exact hm) (by rw [cl_set hls' hul _ hlt]; omega) ?_
        have hg : ∀ j, (listed.setIfInBounds i true).getD j false = true → j = i ∨ (j ≠ i ∧ listed.getD j false = true) := fun j hj => by
          rw [set_get hls'] at hj
          by_cases e : j = i
          · exact .inl e
          · rw [if_neg e] at hj; exact .inr ⟨e, hj⟩
        refine ⟨hA.ex.trans hx, fun t ht => ?_, fun j hj hl => ?_, fun j hj hl => ?_, fun j k hj hk hne hl1 hl2 => ?_⟩
        · rw [upd_other (ht i him')]; exact hA.ag t ht
        · rcases hg j hl with rfl | ⟨e, h1⟩
          · simp only [fs, if_true]; rw [upd_same]; exact hFi
          · simp only [fs, if_neg e]
            rw [upd_other (hinj j i hj him' e)]
            exact hF _ _ _ _ _ _ (hA.fa j hj h1) hx
        · rcases hg j hl with rfl | ⟨e, h1⟩
          · simp only [fs, if_true]
            exact ⟨hA.ex.size, hz, Nat.le_refl _⟩
          · simp only [fs, if_neg e]
            have := hA.bd j hj h1
            exact ⟨this.1, this.2.1, by omega⟩
        · rcases hg j hl1 with rfl | ⟨e, h1⟩
          · rcases hg k hl2 with rfl | ⟨e2, h2⟩
            · exact absurd rfl hne
            · simp only [fs, if_true, if_neg e2]
              exact .inr (hA.bd k hk h2).2.2
          · rcases hg k hl2 with rfl | ⟨e2, h2⟩
            · simp only [fs, if_true, if_neg e]
              exact .inl (hA.bd j hj h1).2.2
            · simp only [fs, if_neg e, if_neg e2]
              exact hA.di j k hj hk hne h1 h2
end go
theorem c_any {N m : Nat} {dl : List Nat} {id : Nat} {l : List Oper} {σ0 : Nat → Value} {ds : List Deferred} {w : World} (F : Nat → Nat → Nat → Value → World → Prop) (hm : P.follows .mixedOrders = true) (hok : anyOK l.toArray m dl = true) (hF : ∀ i lo hi v w w', F i lo hi v w → Ex w w' → F i lo hi v w')
    (hstep : ∀ i, i < m → ∀ σ w', Ex w.drew w' → (∀ t, (∀ i, i < m → t ≠ dl.getD i 0) → σ t = σ0 t) → (∀ e, (deps l.toArray i).contains e = true → ∃ lo hi, w.drew.heap.size ≤ lo ∧ lo ≤ hi ∧ hi ≤ w'.heap.size ∧ F e lo hi (σ (dl.getD e 0)) w') →
      ∃ o, l.toArray[i]? = some o ∧ WL r P l.toArray (fun e a' w'' => e = .normal ∧ ∃ v, a' = mk N (upd σ (dl.getD i 0) v) ds ∧ Ex w' w'' ∧ F i w'.heap.size w''.heap.size v w'') [o] (mk N σ ds) w')
    (hlast : ∀ (σ : Nat → Value) (w' : World) (lo hi : Nat → Nat), Ex w.drew w' → (∀ t, (∀ i, i < m → t ≠ dl.getD i 0) → σ t = σ0 t) → (∀ i, i < m → F i (lo i) (hi i) (σ (dl.getD i 0)) w' ∧ w.drew.heap.size ≤ lo i ∧ lo i ≤ hi i ∧ hi i ≤ w'.heap.size) → (∀ i j, i < m → j < m → i ≠ j → hi i ≤ lo j ∨ hi j ≤ lo i) →
      ∃ o, l.toArray[m]? = some o ∧ WL r P l.toArray (fun e a' w'' => e = .normal ∧ Q .normal a' w'') [o] (mk N σ ds) w') :
    CW r P (.region id l.toArray true) Q (mk N σ0 ds) w := by
  have hsz : l.toArray.size = m + 1 := by
    simp only [anyOK, Bool.and_eq_true] at hok
    exact Nat.eq_of_beq_eq_true hok.1.1.1.1.1
  have hrep : ∀ i, (Array.replicate l.toArray.size false).getD i false = false := fun i => by
    rw [Array.getD_eq_getD_getElem?]
    by_cases hlt : i < l.toArray.size
    · rw [Array.getElem?_replicate, if_pos hlt]; rfl
    · rw [Array.getElem?_replicate, if_neg hlt]; rfl
  have hcl : ∀ n, cl (Array.replicate l.toArray.size false) n = 0 := fun n => by
    induction n with
    | zero => rfl
    | succ n ih => simp only [cl]; rw [ih, hrep]; rfl
  refine wpIn_region_any hm (any_go (w0 := w.drew) hok hF hstep hlast _ _ σ0 w.drew (fun _ => 0) (fun _ => 0) (by simp) (hrep m) (by rw [hcl]; omega) ⟨Ex.refl _, fun t _ => rfl, fun i _ h => ?_, fun i _ h => ?_, fun i j _ _ _ h => ?_⟩)
  · rw [hrep] at h; cases h
  · rw [hrep] at h; cases h
  · rw [hrep] at h; cases h
theorem last_eq {N m : Nat} {σ σ' : Nat → Value} {ds : List Deferred} {w : World} {Q' : Exit → Act → World → Prop} (h : σ = σ') (hW : ∃ o, ops[m]? = some o ∧ WL r P ops Q' [o] (mk N σ' ds) w) : ∃ o, ops[m]? = some o ∧ WL r P ops Q' [o] (mk N σ ds) w := h ▸ hW
theorem sig_norm {m : Nat} {dl : List Nat} {σ σ0 : Nat → Value} (M : Nat) (vals : List (Nat × Value)) (hag : ∀ t, (∀ i, i < m → t ≠ dl.getD i 0) → σ t = σ0 t) (hM : ((List.range m).all fun i => tb M (dl.getD i 0)) = true) (hh : Has σ vals) : σ = ext vals (mask M σ σ0) := by
  have h1 : Agree M σ σ0 := fun t ht => hag t fun i hi e => by
    have := List.all_eq_true.1 hM i (List.mem_range.2 hi)
    rw [← e, ht] at this; cases this
  rw [mask_self h1, ext_has hh]
end any
end Go.Proofs.Ytifbgpkjbciblaa.Sal
end
section
/- graphs.Fits. -/
set_option maxRecDepth 100000
namespace Go.Proofs.Ytifbgpkjbciblaa.Sal
open Go.RowKit
attribute [local irreducible] Go.Code.wpIn Go.wpListIn Ct Ints Rows Sl At Rw WJ
set_option linter.all false
structure PreF (R : Nat → Nat → Bool) (n : Nat) (has : List Int) (k : Nat) : Prop where
  ok : ∀ i, i < k → has.getD i (-1) = -1 ∨ ∃ q : Nat, q < n ∧ has.getD i (-1) = (q : Int) ∧ R i q = true
  inj : ∀ i j, i < k → j < k → has.getD i (-1) = has.getD j (-1) → has.getD i (-1) ≠ -1 → i = j
def hadF (has : List Int) (k : Nat) (q : Nat) : Int := if (has.take k).contains (q : Int) = true then 1 else 0
theorem take_has {has : List Int} {k : Nat} (hk : k < has.length) (q : Int) : (has.take (k + 1)).contains q = ((has.take k).contains q || decide (has.getD k 0 = q)) := by
  rw [List.take_succ_eq_append_getElem hk]
  have e : has.getD k 0 = has[k] := by simp [hk]
  rw [e, Bool.eq_iff_iff]
  simp only [List.contains_iff_mem, List.mem_append, List.mem_singleton, Bool.or_eq_true, decide_eq_true_eq]
  constructor
  · rintro (h | h)
    · exact .inl h
    · exact .inr h.symm
  · rintro (h | h)
    · exact .inl h
    · exact .inr h.symm
theorem hadF_other {has : List Int} {k : Nat} (hk : k < has.length) {q : Nat} (h : has.getD k 0 ≠ (q : Int)) : hadF has (k + 1) q = hadF has k q := by
  unfold hadF
  rw [take_has hk, decide_eq_false h, Bool.or_false]
theorem hadF_same {has : List Int} {k : Nat} (hk : k < has.length) {q : Nat} (h : has.getD k 0 = (q : Int)) : hadF has (k + 1) q = 1 := by
  unfold hadF
  rw [take_has hk, decide_eq_true h, Bool.or_true, if_pos rfl]
theorem getD_m1 {has : List Int} {k : Nat} (hk : k < has.length) : has.getD k (-1) = has.getD k 0 := by simp [List.getD_eq_getElem?_getD, hk]
theorem mem_take_getD {has : List Int} {k : Nat} {q : Int} (h : (has.take k).contains q = true) : ∃ i, i < k ∧ i < has.length ∧ has.getD i (-1) = q := by
  rw [List.contains_iff_mem] at h
  obtain ⟨i, hi⟩ := List.mem_iff_getElem?.1 h
  rw [List.getElem?_take] at hi
  split at hi
  · rename_i hik
    have hl := (List.getElem?_eq_some_iff.1 hi).1
    exact ⟨i, hik, hl, by rw [List.getD_eq_getElem?_getD, hi]; rfl⟩
  · cases hi
theorem PreF.all {R : Nat → Nat → Bool} {m n : Nat} {has : List Int} (h : FitR R m n has) {k : Nat} (hk : k ≤ m) : PreF R n has k :=
  ⟨fun i hi => h.ok i (by omega), fun i j hi hj => h.inj i j (by omega) (by omega)⟩
theorem PreF.none {R : Nat → Nat → Bool} {n : Nat} {has : List Int} {k : Nat} (h : PreF R n has k) (hk : k < has.length) (h1 : has.getD k 0 = -1) : PreF R n has (k + 1) := by
  have e := getD_m1 hk
  refine ⟨fun i hi => ?_, fun i j hi hj he hne => ?_⟩
  · by_cases hik : i = k
    · subst hik; exact .inl (by omega)
    · exact h.ok i (by omega)
  · by_cases hik : i = k
    · subst hik; omega
    · by_cases hjk : j = k
      · subst hjk; omega
      · exact h.inj i j (by omega) (by omega) he hne
theorem PreF.some {R : Nat → Nat → Bool} {n : Nat} {has : List Int} {k q : Nat} (h : PreF R n has k) (hk : k < has.length) (hq : q < n) (h1 : has.getD k 0 = (q : Int)) (hR : R k q = true) (hno : (has.take k).contains (q : Int) = false) : PreF R n has (k + 1) := by
  have e := getD_m1 hk
  have hnot : ∀ i, i < k → has.getD i (-1) ≠ (q : Int) := fun i hi hv => by
    have hil : i < has.length := by omega
    have : (has.take k).contains (q : Int) = true := by
      rw [List.contains_iff_mem, ← hv, List.getD_eq_getElem?_getD, List.getElem?_eq_getElem hil]
      refine List.mem_iff_getElem?.2 ⟨i, ?_⟩
      rw [List.getElem?_take, if_pos hi, List.getElem?_eq_getElem hil]; rfl
    rw [this] at hno; cases hno
  refine ⟨fun i hi => ?_, fun i j hi hj he hne => ?_⟩
  · by_cases hik : i = k
    · subst hik; exact .inr ⟨q, hq, by omega, hR⟩
    · exact h.ok i (by omega)
  · by_cases hik : i = k
    · by_cases hjk : j = k
      · omega
      · subst hik
        exact absurd (by omega) (hnot j (by omega))
    · by_cases hjk : j = k
      · subst hjk
        exact absurd (by omega) (hnot i (by omega))
      · exact h.inj i j (by omega) (by omega) he hne
set_option maxHeartbeats 2000000 in
theorem Fits_ok {R : Nat → Nat → Bool} {m n : Nat} (hm : m ≤ 8) (hn : n ≤ 8) (gv : Value) (hv : Value) (has : List Int) (w : World) (hg : Rows w gv (gL R m n)) (hh : Ints w hv has) (hl : has.length = m) :
    Ct Try.prog 79 #[gv, .int .i64 (n : Int), hv] w fun u w' => (∃ b : Bool, u = .bool b ∧ (b = true ↔ FitR R m n has)) ∧ Ex w w' := by
  have hgl := gL_len R m n
  have hchk := chk_ok (R := R) hm hn
  refine Exists.elim in_a8 fun ti hti => ?_
  refine enter (N := 47) (vs := [gv, .int .i64 (n : Int), hv]) Try.func79 rfl rfl rfl ?_
  repeat (first | (refine isO ?_; first | refine s_move ?_ | refine s_assign ?_) | (refine isC ?_; first | refine c_sr ?_ | refine c_seq ?_) | (refine l_th ?_))
  refine s_call ok_Check rfl (Check_ct gv (gL R m n) n w hg) ?_
  rintro v w2 ⟨rfl, hx2⟩
  refine s_re (v' := .bool true) (vbool hchk) ?_
  have hg2 := hg.ex hx2
  have hh2 := hh.ex hx2
  repeat (first | (refine isO ?_; first | refine s_move ?_ | (refine isG ?_; refine g_yes rfl rfl ?_) | (refine isBin ?_; refine s_neqF rfl rfl (by omega) ?_) | (refine isCall ?_; first | refine s_lenI sl_ints rfl (by assumption) ?_ | refine s_lenR sl_rows rfl (by assumption) ?_) | (refine isPick ?_; refine s_pickf rfl rfl ?_) | refine s_not rfl ?_) | (refine isC ?_; first | refine c_sr ?_ | refine c_th ?_ | refine c_iff rfl ?_) | (refine l_th ?_))
  refine s_alloc (cs := List.replicate 8 (Value.int .i64 0)) hti.1 hti.2 rfl ?_
  intro b7 w3 hb7 hA7 hx3 hs3
  have e0 : tb8 (fun _ => 0) = tb8 (fun q => hadF has 0 q) := by congr 1
  rw [tb8_zero, e0] at hA7
  have hx03 := hx2.trans hx3
  have hh3 := hh.ex hx03
  have hb7w : w.heap.size ≤ b7 := by have := hx2.size; omega
  repeat (first | (refine isO ?_; first | refine s_move ?_ | (refine isCall ?_; refine s_lenI sl_ints rfl (by assumption) ?_)) | (refine isC ?_; first | refine c_sr ?_ | refine c_seq ?_ | refine c_block ?_) | (refine l_th ?_))
  refine c_loop (γ := Nat) 140737479967552 (fun k => [(23, .int .i64 (k : Int))]) (fun k w' => k ≤ m ∧ PreF R n has k ∧ At w' b7 78 (tb8 (fun q => hadF has k q)) ∧ Ex w w') (fun k => m - k) 0 ⟨rfl, trivial⟩ ⟨Nat.zero_le _, ⟨fun i h => by omega, fun i j h => by omega⟩, hA7, hx03⟩ ?_
  rintro k ρ w4 ⟨hk, hP, hA4, hx4⟩
  have hh4 := hh.ex hx4
  have hg4 := hg.ex hx4
  repeat (first | (refine isO ?_; (refine isBin ?_; refine s_lss rfl rfl ?_)) | (refine isC ?_; first | refine c_sr ?_ | refine c_seq ?_) | (refine l_th ?_))
  refine c_ifd rfl (fun h => ?_) (fun h => ?_)
  · have hk' : k < m := by omega
    have hkl : k < has.length := by omega
    have hd1 := getD_m1 hkl
    by_cases hm1 : has.getD k 0 = -1
    · have hP1 := hP.none hkl hm1
      have e1 : tb8 (fun q => hadF has (k + 1) q) = tb8 (fun q => hadF has k q) := by
        congr 1; funext q
        exact hadF_other hkl (by omega)
      repeat (first | (refine isO ?_; first | refine s_move ?_ | refine s_assign ?_ | (refine isBin ?_; first | refine s_inc rfl (by omega) ?_ | refine s_eqlT rfl rfl (by omega) ?_) | (refine isIA ?_; refine s_ixI sl_ints ty_int rfl rfl rfl (by assumption) (by omega) ?_; intro _)) | (refine isC ?_; first | refine c_sr ?_ | refine c_th ?_ | refine c_seq ?_ | refine c_region ?_ | refine c_ift rfl ?_ | refine c_block ?_ | refine c_exit ?_) | (refine l_th ?_))
      exact loop_end (k + 1) (by (repeat (first | exact agree_refl _ _ | refine agree_upd rfl ?_ | refine agree_ext rfl ?_ | refine agree_mask rfl ?_))) ⟨rfl, trivial⟩ ⟨hk', hP1, by rw [e1]; exact hA4, hx4⟩ (by omega)
    · repeat (first | (refine isO ?_; first | refine s_move ?_ | refine s_assign ?_ | (refine isBin ?_; refine s_eqlF rfl rfl (by omega) ?_) | (refine isIA ?_; refine s_ixI sl_ints ty_int rfl rfl rfl (by assumption) (by omega) ?_; intro _)) | (refine isC ?_; first | refine c_sr ?_ | refine c_th ?_ | refine c_seq ?_ | refine c_iff rfl ?_ | refine c_block ?_) | (refine l_th ?_))
      refine s_ixR sl_rows ty_ints rfl rfl rfl hg4 (by omega) ?_
      intro _ u hu
      rw [gL_row hk'] at hu
      repeat ((refine isO ?_; refine s_move ?_))
      refine s_call ok_Contains rfl (Contains_ct u _ (has.getD k 0) w4 hu) ?_
      rintro v w5 ⟨rfl, hx5⟩
      have hx05 := hx4.trans hx5
      have hA5 := hA4.ex hx5
      cases hcn : (rowL n (R k)).contains (has.getD k 0) with
      | false =>
        have hno : ¬ FitR R m n has := fun hF => by
          rcases hF.ok k hk' with h9 | ⟨q, h9, h10, h11⟩
          · omega
          · have := (rowL_has n (R k) (has.getD k 0)).2 ⟨q, h9, h11, by omega⟩
            rw [this] at hcn; cases hcn
        repeat (first | (refine isO ?_; first | refine s_assign ?_ | refine s_not rfl ?_) | (refine isC ?_; first | refine c_sr ?_ | refine c_ift rfl ?_ | refine c_ret ?_) | (first | refine l_th ?_ | refine th_ret ?_ | refine ib_ret ?_))
        exact ret1 rfl rfl ⟨⟨false, rfl, fun h => (by cases h), fun hF => absurd hF hno⟩, hx05⟩
      | true =>
        refine Exists.elim ((rowL_has n (R k) (has.getD k 0)).1 hcn) fun q hq => ?_
        have hq1 := hq.1
        have hq2 := hq.2.1
        have hq3 := hq.2.2
        have hq8 : q < 8 := by omega
        have hs1 := hadF_same hkl hq3
        have hset : fset (fun q => hadF has k q) q 1 = fun q => hadF has (k + 1) q := by
          funext p
          unfold fset
          by_cases e : p = q
          · subst e; rw [if_pos rfl, hs1]
          · rw [if_neg e, hadF_other hkl (by omega)]
        repeat (first | (refine isO ?_; first | refine s_move ?_ | refine s_not rfl ?_) | (refine isC ?_; first | refine c_sr ?_ | refine c_th ?_ | refine c_iff rfl ?_) | (refine l_th ?_))
        refine s_iaV (n := q) u_a8 ty_int rfl (vint hq3) hq8 ?_
        refine s_ldA ty_int rfl hA5 (tb8_get _ hq8) ?_
        cases hin : (has.take k).contains (q : Int) with
        | true =>
          have hv1 : hadF has k q = 1 := by unfold hadF; rw [if_pos hin]
          have hno : ¬ FitR R m n has := fun hF => by
            obtain ⟨i, h9, h10, h11⟩ := mem_take_getD hin
            have := hF.inj i k (by omega) hk' (by omega) (by omega)
            omega
          repeat ((refine isO ?_; (refine isBin ?_; refine s_add rfl rfl ⟨by omega, by omega⟩ ?_)))
          refine s_iaV (n := q) u_a8 ty_int rfl (vint hq3) hq8 ?_
          refine s_stA (n := q) (u := .int .i64 (hadF has k q + 1)) ty_int rfl rfl rfl hA5 (by rw [tb8_len]; exact hq8) ?_
          intro w6 hA6 hg6
          rw [tb8_set _ _ hq8] at hA6
          have hx06 := hx05.store hg6 hb7w
          repeat (first | (refine isO ?_; refine s_move ?_) | (refine isC ?_; refine c_sr ?_) | (refine l_th ?_))
          refine s_iaV (n := q) u_a8 ty_int rfl (vint hq3) hq8 ?_
          refine s_ldA ty_int rfl hA6 (tb8_get _ hq8) ?_
          refine s_re (v' := .int .i64 2) (vint (by rw [fset_same, hv1]; rfl)) ?_
          repeat (first | (refine isO ?_; first | refine s_assign ?_ | (refine isBin ?_; refine s_gtrT rfl rfl (by omega) ?_)) | (refine isC ?_; first | refine c_sr ?_ | refine c_ift rfl ?_ | refine c_ret ?_) | (first | refine l_th ?_ | refine th_ret ?_ | refine ib_ret ?_))
          exact ret1 rfl rfl ⟨⟨false, rfl, fun h => (by cases h), fun hF => absurd hF hno⟩, hx06⟩
        | false =>
          have hv1 : hadF has k q = 0 := by unfold hadF; rw [if_neg (by rw [hin]; exact Bool.false_ne_true)]
          have hP1 := hP.some hkl hq1 hq3 hq2 hin
          repeat ((refine isO ?_; (refine isBin ?_; refine s_add rfl rfl ⟨by omega, by omega⟩ ?_)))
          refine s_iaV (n := q) u_a8 ty_int rfl (vint hq3) hq8 ?_
          refine s_stA (n := q) (u := .int .i64 (hadF has k q + 1)) ty_int rfl rfl rfl hA5 (by rw [tb8_len]; exact hq8) ?_
          intro w6 hA6 hg6
          rw [tb8_set _ _ hq8, hv1] at hA6
          have hx06 := hx05.store hg6 hb7w
          repeat (first | (refine isO ?_; refine s_move ?_) | (refine isC ?_; refine c_sr ?_) | (refine l_th ?_))
          refine s_iaV (n := q) u_a8 ty_int rfl (vint hq3) hq8 ?_
          refine s_ldA ty_int rfl hA6 (tb8_get _ hq8) ?_
          refine s_re (v' := .int .i64 1) (vint (by rw [fset_same]; rfl)) ?_
          repeat (first | (refine isO ?_; first | refine s_move ?_ | (refine isBin ?_; first | refine s_inc rfl (by omega) ?_ | refine s_gtrF rfl rfl (by omega) ?_)) | (refine isC ?_; first | refine c_region ?_ | refine c_iff rfl ?_ | refine c_skip ?_) | (refine l_th ?_))
          exact loop_end (k + 1) (by (repeat (first | exact agree_refl _ _ | refine agree_upd rfl ?_ | refine agree_ext rfl ?_ | refine agree_mask rfl ?_))) ⟨rfl, trivial⟩ ⟨hk', hP1, by rw [← hset]; exact hA6, hx06⟩ (by omega)
  · have hkm : k = m := by omega
    subst hkm
    repeat (first | (refine isO ?_; refine s_assign ?_) | (refine isC ?_; first | refine c_sr ?_ | refine c_ret ?_ | refine c_exit ?_) | (refine l_th ?_))
    exact ret1 rfl rfl ⟨⟨true, rfl, fun _ => ⟨hl, hP.ok, hP.inj⟩, fun _ => rfl⟩, hx4⟩
end Go.Proofs.Ytifbgpkjbciblaa.Sal
end
section
/- graphs.Turned. -/
set_option maxRecDepth 100000
namespace Go.Proofs.Ytifbgpkjbciblaa.Sal
open Go.RowKit
attribute [local irreducible] Go.Code.wpIn Go.wpListIn Ct Ints Rows Sl At Rw WJ
set_option linter.all false
theorem in_ints' : ∃ ti, Try.prog.info? 22 = some ti ∧ ti.zero = some (.slice none 0 0) ∧ ti.size = 1 ∧ ti.bytes ≤ 64 := in_ints.ex
theorem Rw.one {w : World} {E : TypeId} {v : Value} {vs : List Value} (h : Rw w E v vs) : v.oneCell' = true := by
  obtain ⟨a, c, rfl⟩ := h.slen; rfl
end Go.Proofs.Ytifbgpkjbciblaa.Sal
end
section
/- salesroomlaw06.alive. -/
set_option maxRecDepth 100000
namespace Go.Proofs.Ytifbgpkjbciblaa.Sal
open Go.RowKit
attribute [local irreducible] Go.Code.wpIn Go.wpListIn Ct Ints Rows Sl At Rw WJ
set_option linter.all false
theorem rows2 {w : World} {b b1 b2 : Nat} {E : TypeId} {l1 l2 : List Int} (h : At w b E [sv b1 l1.length l1.length, sv b2 l2.length l2.length]) (h1 : Ints w (sv b1 l1.length l1.length) l1) (h2 : Ints w (sv b2 l2.length l2.length) l2) : Rows w (sv b 2 2) [l1, l2] := by
  refine At.rows (g := [l1, l2]) h rfl (by simp) (by simp) (fun i u l hu hl => ?_)
  match i with
  | 0 => simp at hu hl; subst hu; subst hl; exact h1
  | 1 => simp at hu hl; subst hu; subst hl; exact h2
  | i + 2 => simp at hu
theorem At.two {w : World} {b : Nat} {E : TypeId} {p q : Int} (h : At w b E [.int .i64 p, .int .i64 q]) : Ints w (sv b 2 2) [p, q] := At.ints (l := [p, q]) (c := 2) h (by simp) (by simp)
end Go.Proofs.Ytifbgpkjbciblaa.Sal
end
section
/- What the laws of the graphs have in common. -/
set_option maxRecDepth 100000
namespace Go.Proofs.Ytifbgpkjbciblaa.Sal
open Go.RowKit
attribute [local irreducible] Go.Code.wpIn Go.wpListIn Ct Ints Rows Sl At Rw WJ
set_option linter.all false
theorem ris_of {n : Nat} (hn : n ≤ 8) (p : Nat → Bool) : risB (-1) (rowL n p) (n : Int) = true := by
  have h := chk_ok (R := fun _ => p) (m := 1) (n := n) (by omega) hn
  unfold chkG at h
  simp only [Bool.and_eq_true] at h
  have h2 := h.2
  simp [gL] at h2
  exact h2
theorem rowL_none {n : Nat} {p : Nat → Bool} (h : ∀ k, p k = false) : rowL n p = [] := by
  unfold rowL rowN
  rw [List.filter_eq_nil_iff.2 (fun k _ => by simp [h k])]; rfl
theorem nearP_one {R : Nat → Nat → Bool} {m i : Nat} (hi : i < m) (k : Nat) : nearP R m [(i : Int)] k = R i k := by
  rw [Bool.eq_iff_iff]
  unfold nearP
  simp only [List.any_eq_true, List.mem_range, Bool.and_eq_true, List.contains_iff_mem, List.mem_singleton]
  constructor
  · rintro ⟨j, _, h1, h2⟩
    have : j = i := by omega
    rw [this] at h2; exact h2
  · intro h
    exact ⟨i, hi, rfl, h⟩
section
variable {r : Option Nat} {P : Program} {J : World → Prop} {z : Nat} {Q : Exit → Act → World → Prop} {N : Nat} {σ : Nat → Value} {ds : List Deferred} {w : World}
variable {gd : Option (Nat × Bool)} {ops : Array Oper} {i d : Nat} {π : List (Nat × Bool)} {ty : TypeId} {pos : String} {after : Array Edge} {t t' : TypeId} {x y : Operand}
end
end Go.Proofs.Ytifbgpkjbciblaa.Sal
end
section
/- slices.Clone, slices.Repeat at []int; math/bits.Mul. -/
set_option maxRecDepth 100000
namespace Go.Proofs.Ytifbgpkjbciblaa.Sal
open Go.RowKit
attribute [local irreducible] Go.Code.wpIn Go.wpListIn Ct Ints Rows Sl At Rw WJ
set_option linter.all false
theorem ok_Clone : CallOK Try.prog 23 := callOK Try.func23 (by kernel_rfl) rfl
theorem ok_Mul64 : CallOK Try.prog 78 := callOK Try.func78 (by kernel_rfl) rfl
theorem ok_Mul : CallOK Try.prog 74 := callOK Try.func74 (by kernel_rfl) rfl
theorem ok_Repeat : CallOK Try.prog 68 := callOK Try.func68 (by kernel_rfl) rfl
section ops
variable {r : Option Nat} {P : Program} {ops : Array Oper} {Q : Exit → Act → World → Prop} {N : Nat} {σ : Nat → Value} {ds : List Deferred} {w : World} {rest : List Oper}
variable {d : Nat} {ty t t' : TypeId} {pos : String} {after : Array Edge} {T E : TypeId} {x y : Operand}
theorem run_equalIn_nil (P : Program) (w : World) (d : Nat) (hT : SlT P T E) (a : Option Addr) (n c : Nat) : (Op.equalIn (d + 1) T (.slice a n c) (.slice none 0 0)).run P w = .ok a.isNone w := by
  have hT' : P.underlying T = some (.slice E) := hT
  cases a <;> simp [Op.equalIn, run_underlying hT']
theorem run_equal_nil (P : Program) (w : World) (hT : SlT P T E) (a : Option Addr) (n c : Nat) : (Op.equal T (.slice a n c) (.slice none 0 0)).run P w = .ok a.isNone w := run_equalIn_nil P w 9999 hT a n c
/-- Is a slice nil? -/
theorem s_eqln {a : Option Addr} {n c : Nat} (hT : SlT P T E) (hx : ev N σ x = .slice a n c) (hy : ev N σ y = .slice none 0 0) (h : WL r P ops Q rest (mk N (upd σ d (.bool a.isNone)) ds) w) : WL r P ops Q (⟨some d, .binOp .eql T x y t', ty, pos, after, none⟩ :: rest) (mk N σ ds) w :=
  l_val (by intro c e; cases e) (bin_run hx hy (by simp [go_sem]) (by
    show ((Op.equal T (.slice a n c) (.slice none 0 0)).bind fun b => (Sem.pure (Value.bool b) : Sem Value)).run P w = _
    simp [Sem.run_bind', run_equal_nil P w hT a n c])) h
/-- []T{}. -/
theorem s_bs0 {z : Value} (hT : SlT P T E) (hi : InfoOf P E z)
    (h : ∀ b w', b = w.heap.size → Rw w' E (.slice (some ⟨b, 0, none⟩) 0 0) [] → Ex w w' → w'.heap.size = b + 1 → WL r P ops Q rest (mk N (upd σ d (.slice (some ⟨b, 0, none⟩) 0 0)) ds) w') :
    WL r P ops Q (⟨some d, .buildSlice T 0 #[], ty, pos, after, none⟩ :: rest) (mk N σ ds) w := by
  obtain ⟨ti, h1i, h2i, h3i, h4i⟩ := hi.ex
  have hT' : P.underlying T = some (.slice E) := hT
  have hA := at_new w ([] : List Value) E
  have hR := hA.rw (n := 0) (c := 0) rfl (Nat.le_refl _) (by omega)
  refine l_val (v := .slice (some ⟨w.heap.size, 0, none⟩) 0 0) (w' := w.alloc (.cells ([] : List Value).toArray E)) (by intro c e; cases e) ?_ (h _ _ rfl hR (Ex.alloc w _) (size_new w _))
  simp [execOp, Instr.buildSlice, run_underlying hT', sizeOf, typeInfo, h1i, h2i, h3i, zeroValue, Instr.fill, newRow, hi.one, Array.range_succ, Array.range_zero']
end ops
theorem Clone_ct (v : Value) (l : List Int) (w : World) (hl : Ints w v l) (hm : l.length ≤ 10000) :
    Ct Try.prog 23 #[v] w fun u w' => LI w w' 3 u l ∧ Ex w w' := by
  obtain ⟨a, c, rfl⟩ := hl.form
  refine enter (N := 8) (vs := [.slice a l.length c]) Try.func23 rfl rfl rfl ?_
  repeat (first | (refine isO ?_; first | refine s_move ?_ | refine s_assign ?_) | (refine isC ?_; first | refine c_sr ?_ | refine c_seq ?_) | (refine l_th ?_))
  refine s_eqln sl_ints rfl rfl ?_
  cases a with
  | none =>
    have hl0 : l = [] := by
      obtain ⟨_, a, n, c', hv, _, _, hc⟩ := Ints.parts hl
      cases hv
      cases l with
      | nil => rfl
      | cons x l => obtain ⟨ad, h, _⟩ := hc 0 (.int .i64 x) rfl; cases h
    subst hl0
    repeat (first | (refine isO ?_; refine s_assign ?_) | (refine isC ?_; first | refine c_sr ?_ | refine c_ift rfl ?_ | refine c_ret ?_) | (first | refine l_th ?_ | refine th_ret ?_))
    exact ret1 rfl rfl ⟨LI.nil _ _ _, Ex.refl _⟩
  | some a =>
    repeat (first | (refine isC ?_; first | refine c_sr ?_ | refine c_th ?_ | refine c_iff rfl ?_) | (refine l_th ?_))
    refine s_bs0 sl_ints in_int ?_
    intro b w1 hb hR hx1 hs1
    repeat ((refine isO ?_; refine s_move ?_))
    refine s_lapp (w0 := w) (l := []) sl_ints in_int ⟨hR, fun q hq => by cases hq; show w.heap.size ≤ b; omega⟩ (hl.ex hx1) rfl rfl (by simp; omega) hx1 ?_
    intro v' w2 hL hx2
    repeat (first | (refine isO ?_; refine s_assign ?_) | (refine isC ?_; refine c_ret ?_) | (refine l_th ?_))
    exact ret1 rfl rfl ⟨hL, hx2⟩
theorem low32 {n : Nat} (h : n ≤ 1000) : n &&& 4294967295 = n := by
  have := Nat.and_two_pow_sub_one_eq_mod n 32
  rw [show (2 ^ 32 - 1 : Nat) = 4294967295 from rfl] at this
  rw [this]; exact Nat.mod_eq_of_lt (by omega)
theorem hi32 {n : Nat} (h : n ≤ 1000) : n / 2 ^ 32 = 0 := Nat.div_eq_of_lt (by omega)
theorem Mul64_ct (n : Nat) (hn : n ≤ 1000) (w : World) :
    Ct Try.prog 78 #[.int .u64 ((1 : Nat) : Int), .int .u64 (n : Int)] w fun u w' => u = .tuple #[.int .u64 ((0 : Nat) : Int), .int .u64 (n : Int)] ∧ Ex w w' := by
  have l0 := low32 (n := 0) (by omega)
  have l1 := low32 (n := 1) (by omega)
  have ln := low32 hn
  have h0 := hi32 (n := 0) (by omega)
  have h1 := hi32 (n := 1) (by omega)
  have h2 := hi32 hn
  refine enter (N := 51) (vs := [.int .u64 ((1 : Nat) : Int), .int .u64 (n : Int)]) Try.func78 rfl rfl rfl ?_
  repeat (first | (refine isO ?_; first | refine s_move ?_ | refine s_assign ?_) | (refine isC ?_; refine c_sr ?_) | (refine l_th ?_))
  refine s_and (m := 1) (n := 4294967295) rfl rfl (by simp [top]) (by simp [top]) ?_
  refine s_re (vint (congrArg (fun q : Nat => (q : Int)) l1)) ?_
  repeat (first | (refine isO ?_; first | refine s_move ?_ | refine s_assign ?_) | (refine isC ?_; refine c_sr ?_) | (refine l_th ?_))
  refine s_shr (m := 1) (n := 32) rfl rfl (by simp [IntKind.bits]) ?_
  refine s_re (vint (congrArg (fun q : Nat => (q : Int)) h1)) ?_
  repeat (first | (refine isO ?_; first | refine s_move ?_ | refine s_assign ?_) | (refine isC ?_; refine c_sr ?_) | (refine l_th ?_))
  refine s_and (m := n) (n := 4294967295) rfl rfl (by simp [top]; omega) (by simp [top]) ?_
  refine s_re (vint (congrArg (fun q : Nat => (q : Int)) ln)) ?_
  repeat (first | (refine isO ?_; first | refine s_move ?_ | refine s_assign ?_) | (refine isC ?_; refine c_sr ?_) | (refine l_th ?_))
  refine s_shr (m := n) (n := 32) rfl rfl (by simp [IntKind.bits]) ?_
  refine s_re (vint (congrArg (fun q : Nat => (q : Int)) h2)) ?_
  repeat (first | (refine isO ?_; first | refine s_move ?_ | refine s_assign ?_) | (refine isC ?_; refine c_sr ?_) | (refine l_th ?_))
  refine s_mulN (m := 1) (n := n) rfl rfl (by simp [top]; omega) ?_
  refine s_re (vint (congrArg (fun q : Nat => (q : Int)) (Nat.one_mul n))) ?_
  repeat (first | (refine isO ?_; first | refine s_move ?_ | refine s_assign ?_) | (refine isC ?_; refine c_sr ?_) | (refine l_th ?_))
  refine s_mulN (m := 0) (n := n) rfl rfl (by simp [top]) ?_
  refine s_re (vint (congrArg (fun q : Nat => (q : Int)) (Nat.zero_mul n))) ?_
  repeat ((refine isO ?_; refine s_move ?_))
  refine s_shr (m := n) (n := 32) rfl rfl (by simp [IntKind.bits]) ?_
  refine s_re (vint (congrArg (fun q : Nat => (q : Int)) h2)) ?_
  refine s_addN (m := 0) (n := 0) rfl rfl (by simp [top]) ?_
  repeat (first | (refine isO ?_; first | refine s_move ?_ | refine s_assign ?_) | (refine isC ?_; refine c_sr ?_) | (refine l_th ?_))
  refine s_and (m := 0) (n := 4294967295) rfl rfl (by simp [top]) (by simp [top]) ?_
  refine s_re (vint (congrArg (fun q : Nat => (q : Int)) l0)) ?_
  repeat (first | (refine isO ?_; first | refine s_move ?_ | refine s_assign ?_) | (refine isC ?_; refine c_sr ?_) | (refine l_th ?_))
  refine s_shr (m := 0) (n := 32) rfl rfl (by simp [IntKind.bits]) ?_
  refine s_re (vint (congrArg (fun q : Nat => (q : Int)) h0)) ?_
  repeat (first | (refine isO ?_; first | refine s_move ?_ | refine s_assign ?_) | (refine isC ?_; refine c_sr ?_) | (refine l_th ?_))
  refine s_mulN (m := 1) (n := 0) rfl rfl (by simp [top]) ?_
  refine s_addN (m := 0) (n := 0) rfl rfl (by simp [top]) ?_
  repeat (first | (refine isO ?_; first | refine s_move ?_ | refine s_assign ?_) | (refine isC ?_; refine c_sr ?_) | (refine l_th ?_))
  refine s_mulN (m := 0) (n := 0) rfl rfl (by simp [top]) ?_
  repeat ((refine isO ?_; refine s_move ?_))
  refine s_addN (m := 0) (n := 0) rfl rfl (by simp [top]) ?_
  repeat ((refine isO ?_; refine s_move ?_))
  refine s_shr (m := 0) (n := 32) rfl rfl (by simp [IntKind.bits]) ?_
  refine s_re (vint (congrArg (fun q : Nat => (q : Int)) h0)) ?_
  refine s_addN (m := 0) (n := 0) rfl rfl (by simp [top]) ?_
  repeat (first | (refine isO ?_; first | refine s_move ?_ | refine s_assign ?_) | (refine isC ?_; refine c_sr ?_) | (refine l_th ?_))
  refine s_mulN (m := 1) (n := n) rfl rfl (by simp [top]; omega) ?_
  refine s_re (vint (congrArg (fun q : Nat => (q : Int)) (Nat.one_mul n))) ?_
  repeat (first | (refine isO ?_; refine s_assign ?_) | (refine isC ?_; refine c_ret ?_) | (refine l_th ?_))
  exact ret2 rfl rfl rfl ⟨rfl, Ex.refl _⟩
theorem Mul_ct (n : Nat) (hn : n ≤ 1000) (w : World) :
    Ct Try.prog 74 #[.int .u64 ((1 : Nat) : Int), .int .u64 (n : Int)] w fun u w' => u = .tuple #[.int .u64 ((0 : Nat) : Int), .int .u64 (n : Int)] ∧ Ex w w' := by
  refine enter (N := 30) (vs := [.int .u64 ((1 : Nat) : Int), .int .u64 (n : Int)]) Try.func74 rfl rfl rfl ?_
  repeat (first | (refine isO ?_; first | refine s_move ?_ | refine s_assign ?_) | (refine isC ?_; first | refine c_sr ?_ | refine c_th ?_ | refine c_seq ?_ | refine c_iff rfl ?_) | (refine l_th ?_))
  refine s_call ok_Mul64 rfl (Mul64_ct n hn w) ?_
  rintro u w1 ⟨rfl, hx⟩
  repeat (first | (refine isO ?_; first | refine s_move ?_ | refine s_assign ?_ | refine s_extract rfl rfl ?_) | (refine isC ?_; first | refine c_sr ?_ | refine c_ret ?_) | (refine l_th ?_))
  exact ret2 rfl rfl rfl ⟨rfl, hx⟩
theorem rep_grow (c k n : Nat) (h : c + k ≤ n) : (List.replicate c (Value.int .i64 (-1)) ++ List.replicate (n - c) (Value.int .i64 0)).take c ++ List.replicate k (Value.int .i64 (-1)) ++ (List.replicate c (Value.int .i64 (-1)) ++ List.replicate (n - c) (Value.int .i64 0)).drop (c + k) = List.replicate (c + k) (Value.int .i64 (-1)) ++ List.replicate (n - (c + k)) (.int .i64 0) := by
  rw [List.take_left' (by simp), List.replicate_append_replicate, List.drop_append, List.drop_of_length_le (by simp)]
  simp only [List.length_replicate, List.nil_append, List.drop_replicate]
  congr 2; omega
theorem Repeat_ct (b0 : Nat) (n : Nat) (hn : n ≤ 1000) (w : World) (hA0 : At w b0 3 [.int .i64 (-1)]) :
    Ct Try.prog 68 #[sv b0 1 1, .int .i64 (n : Int)] w fun u w' => ∃ b, u = sv b n n ∧ w.heap.size ≤ b ∧ At w' b 3 (List.replicate n (.int .i64 (-1))) ∧ Ex w w' := by
  refine Exists.elim in_int' fun ti hti => ?_
  refine enter (N := 48) (vs := [sv b0 1 1, .int .i64 (n : Int)]) Try.func68 rfl rfl rfl ?_
  repeat (first | (refine isO ?_; first | refine s_move ?_ | refine s_assign ?_ | (refine isBin ?_; refine s_lssF rfl rfl (by omega) ?_) | (refine isCall ?_; refine s_len sl_ints rfl ?_)) | (refine isC ?_; first | refine c_sr ?_ | refine c_th ?_ | refine c_seq ?_ | refine c_iff rfl ?_) | (refine l_th ?_))
  refine s_conv (n := 1) (by kernel_rfl) Try.underlying97 rfl (by simp [top]) ?_
  repeat ((refine isO ?_; refine s_move ?_))
  refine s_conv (n := n) (by kernel_rfl) Try.underlying97 rfl (by simp [top]; omega) ?_
  refine s_call ok_Mul rfl (Mul_ct n hn w) ?_
  rintro u w1 ⟨rfl, hx1⟩
  have hA01 := hA0.ex hx1
  repeat (first | (refine isO ?_; first | refine s_move ?_ | refine s_assign ?_ | (refine isG ?_; refine g_yes rfl rfl ?_) | (refine isBin ?_; refine s_gtrF rfl rfl (by omega) ?_) | (refine isPick ?_; refine s_pickf rfl rfl ?_) | refine s_extract rfl rfl ?_) | (refine isC ?_; first | refine c_sr ?_ | refine c_th ?_ | refine c_seq ?_ | refine c_iff rfl ?_) | (refine l_th ?_))
  refine s_conv (n := n) (by kernel_rfl) Try.underlying3 rfl (by simp [top]; omega) ?_
  refine s_make sl_ints hti.1 hti.2.1 hti.2.2.1 rfl hti.2.2.2 rfl (by omega) ?_
  intro b w2 hb hA hx2 hs2
  have hx02 := hx1.trans hx2
  have hbw : w.heap.size ≤ b := by have := hx1.size; omega
  have hA02 := hA01.ex hx2
  have z1 := hx1.size
  repeat (first | (refine isO ?_; first | refine s_move ?_ | refine s_assign ?_) | (refine isC ?_; refine c_sr ?_) | (refine l_th ?_))
  refine s_copy (news := List.replicate (min 1 n) (.int .i64 (-1))) sl_ints ty_int hA rfl rfl (by simp) (fun j v hj => ?_) (by simp; omega) (by intro q hq; rw [List.eq_of_mem_replicate hq]; rfl) ?_
  · have hj0 := (List.getElem?_eq_some_iff.1 hj).1
    simp at hj0
    have : j = 0 := by omega
    subst this
    rw [add_at, hA02.cell]
    rw [List.getElem?_replicate, if_pos (by omega)] at hj
    exact hj
  intro w3 hA3 hg3 hs3
  have hx03 := hx02.store hg3 hbw
  have e3 : (List.replicate n (Value.int .i64 0)).take 0 ++ List.replicate (min 1 n) (.int .i64 (-1)) ++ (List.replicate n (Value.int .i64 0)).drop (0 + (List.replicate (min 1 n) (Value.int .i64 (-1))).length) = List.replicate (min 1 n) (Value.int .i64 (-1)) ++ List.replicate (n - min 1 n) (.int .i64 0) := by simp
  rw [e3] at hA3
  repeat (first | (refine isO ?_; refine s_assign ?_) | (refine isC ?_; first | refine c_seq ?_ | refine c_block ?_) | (refine l_th ?_))
  refine c_loop (γ := Nat) 140720308486400 (fun c => [(8, .int .i64 (c : Int))]) (fun c w' => (c ≤ n ∧ (0 < c ∨ n = 0)) ∧ At w' b 3 (List.replicate c (.int .i64 (-1)) ++ List.replicate (n - c) (Value.int .i64 0)) ∧ Ex w w') (fun c => n - c) (min 1 n) ⟨vint (by simp), trivial⟩ ⟨⟨by omega, by omega⟩, hA3, hx03⟩ ?_
  rintro c ρ w4 ⟨⟨hc, hc0⟩, hA4, hx4⟩
  repeat (first | (refine isO ?_; first | refine s_move ?_ | (refine isBin ?_; refine s_lss rfl rfl ?_) | (refine isCall ?_; refine s_len sl_ints rfl ?_)) | (refine isC ?_; first | refine c_sr ?_ | refine c_seq ?_) | (refine l_th ?_))
  refine c_ifd rfl (fun h => ?_) (fun h => ?_)
  · have hc' : c < n := by omega
    repeat ((refine isC ?_; first | refine c_th ?_ | refine c_block ?_))
    refine c_drawJ (fun _ => True) trivial 0 8 [(0, true), (1, true), (2, true), (3, true), (4, true), (5, true), (6, true), (7, false), (8, true), (9, true)] mixed (by kernel_rfl) ?_
    refine d_move rfl ?_
    refine d_move rfl ?_
    refine d_move rfl ?_
    refine d_tailA (lo := c) rfl sl_ints ty_int rfl rfl hc' ?_
    refine d_move rfl ?_
    refine d_move rfl ?_
    refine d_headA (hi := c) rfl sl_ints ty_int rfl rfl (by omega) ?_
    refine d_ch rfl ?_
    have hA5 := hA4.ex (Ex.drew w4)
    refine s_copy (news := List.replicate (min c (n - c)) (.int .i64 (-1))) sl_ints ty_int hA5 rfl rfl (by simp) (fun j v hj => ?_) (by simp; omega) (by intro q hq; rw [List.eq_of_mem_replicate hq]; rfl) ?_
    · have hj0 := (List.getElem?_eq_some_iff.1 hj).1
      simp at hj0
      rw [add_at, hA5.cell, Nat.zero_add, List.getElem?_append_left (by simp; omega), List.getElem?_replicate, if_pos (by omega)]
      rw [List.getElem?_replicate, if_pos (by omega)] at hj
      exact hj
    intro w5 hA6 hg5 hs5
    have hx5 := (hx4.trans (Ex.drew w4)).store hg5 hbw
    refine l_nil ⟨rfl, .inr trivial, ?_⟩
    rw [List.length_replicate, rep_grow c (min c (n - c)) n (by omega)] at hA6
    refine d_add rfl rfl rfl ⟨by omega, by simp; omega⟩ ?_
    refine d_assign rfl ?_
    refine d_nil ?_
    repeat ((first | refine th_norm ?_ | refine ib_norm ?_))
    exact loop_end (c + min c (n - c)) (by (repeat (first | exact agree_refl _ _ | refine agree_upd rfl ?_ | refine agree_ext rfl ?_ | refine agree_mask rfl ?_))) ⟨vint (by simp), trivial⟩ ⟨⟨by omega, by omega⟩, hA6, hx5⟩ (by omega)
  · have hcn : c = n := by omega
    subst hcn
    repeat (first | (refine isO ?_; first | refine s_move ?_ | refine s_assign ?_) | (refine isC ?_; first | refine c_sr ?_ | refine c_ret ?_ | refine c_exit ?_) | (refine l_th ?_))
    refine ret1 rfl rfl ⟨b, rfl, hbw, ?_, hx4⟩
    simpa using hA4
end Go.Proofs.Ytifbgpkjbciblaa.Sal
end
section
/- The search of a way to one more: what its struct holds; paths.begin. -/
set_option maxRecDepth 100000
namespace Go.Proofs.Ytifbgpkjbciblaa.Sal
open Go.RowKit
attribute [local irreducible] Go.Code.wpIn Go.wpListIn Ct Ints Rows Sl At Rw WJ
set_option linter.all false
theorem ok_begin : CallOK Try.prog 75 := callOK Try.func75 (by kernel_rfl) rfl
theorem ok_goes : CallOK Try.prog 76 := callOK Try.func76 (by kernel_rfl) rfl
theorem ok_More : CallOK Try.prog 70 := callOK Try.func70 (by kernel_rfl) rfl
theorem tyn_a8 : TyN Try.prog 78 := by
  have h := sz_a8
  cases hi : Try.prog.info? 78 with
  | none => rw [hi] at h; cases h
  | some ti => rw [hi] at h; exact ⟨ti, hi, by simp at h; omega⟩
theorem tyn_ints : TyN Try.prog 22 := ty_ints.n
theorem tyn_rows : TyN Try.prog 23 := ty_rows.n
def u_search := Try.underlying106
/-- What the search's struct holds. -/
def SE (g h v : Value) (w q : Nat → Nat) : List Value := g :: h :: v :: (tb8 (fun k => (w k : Int)) ++ tb8 (fun k => (q k : Int)))
theorem SE_len (g h v : Value) (w q : Nat → Nat) : (SE g h v w q).length = 19 := by simp [SE, tb8_len]
theorem SE_by {g h v : Value} {w q : Nat → Nat} {k : Nat} (hk : k < 8) : (SE g h v w q)[3 + k]? = some (.int .i64 (w k : Int)) := by
  have e : 3 + k = k + 1 + 1 + 1 := by omega
  rw [e]
  unfold SE
  rw [List.getElem?_cons_succ, List.getElem?_cons_succ, List.getElem?_cons_succ, List.getElem?_append_left (by rw [tb8_len]; exact hk), tb8_get _ hk]
theorem SE_ho {g h v : Value} {w q : Nat → Nat} {k : Nat} (hk : k < 8) : (SE g h v w q)[11 + k]? = some (.int .i64 (q k : Int)) := by
  have e : 11 + k = (8 + k) + 1 + 1 + 1 := by omega
  rw [e]
  unfold SE
  rw [List.getElem?_cons_succ, List.getElem?_cons_succ, List.getElem?_cons_succ, List.getElem?_append_right (by rw [tb8_len]; omega), tb8_len]
  have e2 : 8 + k - 8 = k := by omega
  rw [e2, tb8_get _ hk]
theorem fset_cast (w : Nat → Nat) (k x : Nat) : fset (fun j => (w j : Int)) k ((x : Nat) : Int) = fun j => ((fset w k x j : Nat) : Int) := by
  funext j
  unfold fset
  by_cases e : j = k
  · rw [if_pos e, if_pos e]
  · rw [if_neg e, if_neg e]
theorem SE_set_by {g h v : Value} {w q : Nat → Nat} {k x : Nat} (hk : k < 8) : (SE g h v w q).set (3 + k) (.int .i64 ((x : Nat) : Int)) = SE g h v (fset w k x) q := by
  have e : 3 + k = k + 1 + 1 + 1 := by omega
  rw [e]
  unfold SE
  rw [List.set_cons_succ, List.set_cons_succ, List.set_cons_succ, List.set_append_left _ _ (by rw [tb8_len]; exact hk), tb8_set _ _ hk, fset_cast]
theorem SE_set_ho {g h v : Value} {w q : Nat → Nat} {k x : Nat} (hk : k < 8) : (SE g h v w q).set (11 + k) (.int .i64 ((x : Nat) : Int)) = SE g h v w (fset q k x) := by
  have e : 11 + k = (8 + k) + 1 + 1 + 1 := by omega
  rw [e]
  unfold SE
  rw [List.set_cons_succ, List.set_cons_succ, List.set_cons_succ, List.set_append_right _ _ (by rw [tb8_len]; omega), tb8_len]
  have e2 : 8 + k - 8 = k := by omega
  rw [e2, tb8_set _ _ hk, fset_cast]
theorem built_search (a1 a2 a3 : Option Addr) (n1 n2 n3 c1 c2 c3 : Nat) : Try.prog.built 106 [(0, .slice a1 n1 c1), (1, .slice a2 n2 c2), (2, .slice a3 n3 c3)] = some (SE (.slice a1 n1 c1) (.slice a2 n2 c2) (.slice a3 n3 c3) (fun _ => 0) (fun _ => 0)).toArray := by kernel_rfl
theorem gb_refl (w : World) (o : Option Nat) : w.grownBy w o := ⟨rfl, rfl, rfl, Nat.le_refl _, fun _ _ _ => rfl⟩
theorem gb_trans {a b c : World} {o : Option Nat} (h : a.grownBy b o) (k : b.grownBy c o) : a.grownBy c o :=
  ⟨k.os.trans h.os, k.tape.trans h.tape, k.output.trans h.output, Nat.le_trans h.size k.size, fun q hq hne => (k.block q (Nat.lt_of_lt_of_le hq h.size) hne).trans (h.block q hq hne)⟩
theorem Ex.grown_to {w w' : World} {o : Option Nat} (h : Ex w w') : w.grownBy w' o := ⟨h.os, h.tape, h.output, h.size, fun k hk _ => h.block k hk⟩
section ops
variable {r : Option Nat} {P : Program} {ops : Array Oper} {Q : Exit → Act → World → Prop} {N : Nat} {σ : Nat → Value} {ds : List Deferred} {w : World} {rest : List Oper}
variable {d : Nat} {ty : TypeId} {pos : String} {after : Array Edge} {T E : TypeId} {x y : Operand}
theorem s_build {parts : List (Nat × Operand)} {cells : List Value} (h : P.built T (parts.map fun p => (p.1, ev N σ p.2)) = some cells.toArray) (hK : WL r P ops Q rest (mk N (upd σ d (.agg cells.toArray)) ds) w) :
    WL r P ops Q (⟨some d, .build T parts.toArray, ty, pos, after, none⟩ :: rest) (mk N σ ds) w :=
  l_val (by intro c e; cases e) (by
    have := run_build (P := P) w T (parts.map fun p => (p.1, ev N σ p.2)).toArray cells.toArray h
    simp [execOp, this]) hK
/-- append(l, x...) of numbers, with what turns by it. -/
theorem s_lappG {w0 : World} {z v xv : Value} {l news : List Int} (hT : SlT P T E) (hi : InfoOf P E z) (hL : LI w0 w E v l) (hS : Ints w xv news) (hv : ev N σ x = v) (hxv : ev N σ y = xv) (hlen : l.length + news.length ≤ 100000) (hw : Ex w0 w)
    (h : ∀ v' w', LI w0 w' E v' (l ++ news) → Ex w0 w' → w.grownBy w' v.ownBlock → (v'.ownBlock = v.ownBlock ∨ ∀ b, v'.ownBlock = some b → w.heap.size ≤ b) → WL r P ops Q rest (mk N (upd σ d v') ds) w') :
    WL r P ops Q (⟨some d, .call { callee := .builtin .append, args := #[x, y], argTypes := #[T, T] }, ty, pos, after, none⟩ :: rest) (mk N σ ds) w := by
  refine s_app hT hi hL.1 hS.sl hv hxv (map_one news) (by simp; omega) ?_
  intro v' w' hR hg hf
  refine h v' w' ⟨by rw [List.map_append]; exact hR, fun b hb => ?_⟩ (hw.storeo hg hL.2) hg hf
  rcases hf with he | hf
  · exact hL.2 b (he ▸ hb)
  · exact Nat.le_trans hw.size (hf b hb)
end ops
theorem At.li {w0 w : World} {b : Nat} {q : Int} (h : At w b 3 [.int .i64 q]) (hb : w0.heap.size ≤ b) : LI w0 w 3 (sv b 1 1) [q] :=
  ⟨h.rw (n := 1) (c := 1) rfl (Nat.le_refl _) (by omega), fun k hk => by cases hk; exact hb⟩
theorem Clone_own (v : Value) (l : List Int) (w : World) (hl : Ints w v l) (hm : l.length ≤ 10000) (hne : l ≠ []) :
    Ct Try.prog 23 #[v] w fun u w' => ∃ b c, u = sv b l.length c ∧ OwnI w' 3 b c l ∧ w.heap.size ≤ b ∧ Ex w w' :=
  (Clone_ct v l w hl hm).mono fun u w' ⟨hL, hx⟩ => by
    obtain ⟨b, c, hv, hO, hb⟩ := hL.own hne (by omega)
    exact ⟨b, c, hv, hO, hb, hx⟩
theorem Clip_own (b c : Nat) (l : List Int) (w : World) (hO : OwnI w 3 b c l) :
    Ct Try.prog 22 #[sv b l.length c] w fun u w' => u = sv b l.length l.length ∧ OwnI w' 3 b l.length l ∧ Ex w w' :=
  (Clip_ct _ l w hO.ints).mono fun u w' ⟨⟨a, c', hv, hu⟩, hI, hx⟩ => by
    cases hv
    obtain ⟨sp, h1, h2, h3⟩ := hO
    exact ⟨hu, ⟨sp, h1.ex hx, Nat.le_refl _, h3⟩, hx⟩
theorem holdN_m1 {has : List Int} {i : Nat} (h : has.getD i (-1) = -1) : holdN has (i + 1) = holdN has i := by
  funext k
  show (if has.getD i (-1) = (k : Int) then i + 1 else holdN has i k) = _
  rw [h, if_neg (by omega)]
theorem holdN_at {has : List Int} {i q : Nat} (h : has.getD i (-1) = (q : Int)) : holdN has (i + 1) = fset (holdN has i) q (i + 1) := by
  funext k
  show (if has.getD i (-1) = (k : Int) then i + 1 else holdN has i k) = _
  unfold fset
  by_cases e : k = q
  · subst e; rw [if_pos h, if_pos rfl]
  · rw [if_neg (by omega), if_neg e]
set_option maxHeartbeats 2000000 in
theorem begin_ct {R : Nat → Nat → Bool} {m n : Nat} (hm : m ≤ 8) (hn : n ≤ 8) {gv hv : Value} {has : List Int} {a : Nat} {w : World} (hg : Rows w gv (gL R m n)) (hh : Ints w hv has) (hF : FitR R m n has) (ham : a < m) (ha : has.getD a (-1) = -1) :
    Ct Try.prog 75 #[gv, .int .i64 (n : Int), hv, .int .i64 (a : Int)] w fun u w' => ∃ b hb wv, u = .tuple #[.pointer (some ⟨b, 0, none⟩), .int .i64 0] ∧ At w' b 106 (SE gv (sv hb has.length has.length) wv (fun _ => 0) (holdN has has.length)) ∧ OwnI w' 3 hb has.length has ∧ LI w w' 3 wv [(a : Int)] ∧
      (wv.ownBlock ≠ some hb ∧ wv.ownBlock ≠ some b ∧ hb ≠ b) ∧ w.heap.size ≤ b ∧ w.heap.size ≤ hb ∧ Ex w w' := by
  have hl := hF.len
  have hgl := gL_len R m n
  have ha0 : has.getD a 0 = -1 := by rw [← getD_m1 (by omega)]; exact ha
  have hne : has ≠ [] := fun e => by rw [e] at hl; simp at hl; omega
  refine Exists.elim hg.form fun ga hga => Exists.elim hga fun gc hgc => ?_
  subst hgc
  refine enter (N := 61) (vs := [.slice ga (gL R m n).length gc, .int .i64 (n : Int), hv, .int .i64 (a : Int)]) Try.func75 rfl rfl rfl ?_
  repeat (first | (refine isO ?_; first | refine s_move ?_ | refine s_assign ?_) | (refine isC ?_; first | refine c_sr ?_ | refine c_seq ?_) | (refine l_th ?_))
  refine s_call ok_Fits rfl (Fits_ok hm hn _ hv has w hg hh hl) ?_
  rintro u w2 ⟨⟨b0, rfl, hb0⟩, hx2⟩
  refine s_re (v' := .bool true) (vbool (hb0.2 hF)) ?_
  have hg2 := hg.ex hx2
  have hh2 := hh.ex hx2
  repeat (first | (refine isO ?_; first | refine s_move ?_ | (refine isG ?_; refine g_yes rfl rfl ?_) | (refine isBin ?_; first | refine s_lssF rfl rfl (by omega) ?_ | refine s_neqF rfl rfl (by omega) ?_ | refine s_geqF rfl rfl (by omega) ?_) | (refine isCall ?_; refine s_lenR sl_rows rfl (by assumption) ?_) | (refine isPick ?_; refine s_pickf rfl rfl ?_) | refine s_not rfl ?_) | (refine isO ?_; first | (refine s_iaI sl_ints ty_int rfl rfl (by assumption) (by omega) ?_; intro _ _) | refine s_ld ty_int rfl (by assumption) ?_) | (refine isC ?_; first | refine c_sr ?_ | refine c_th ?_ | refine c_iff rfl ?_) | (refine l_th ?_))
  refine s_call ok_Clone rfl (Clone_own hv has w2 hh2 (by omega) hne) ?_
  rintro u w3 ⟨hb, c3, rfl, hO3, hbw3, hx3⟩
  refine s_call ok_Clip rfl (Clip_own hb c3 has w3 hO3) ?_
  rintro u w4 ⟨rfl, hO4, hx4⟩
  repeat ((refine isO ?_; refine s_move ?_))
  refine s_bs1 sl_ints in_int rfl rfl ?_
  intro b5 w5 hb5 hA5 hx5 hs5
  refine s_build (cells := SE (.slice ga (gL R m n).length gc) (sv hb has.length has.length) (sv b5 1 1) (fun _ => 0) (fun _ => 0)) (built_search _ _ _ _ _ _ _ _ _) ?_
  refine s_box (cs := SE (.slice ga (gL R m n).length gc) (sv hb has.length has.length) (sv b5 1 1) (fun _ => 0) (fun _ => 0)) rfl rfl ?_
  intro b w6 hb6 hA6 hx6 hs6
  have z2 := hx2.size
  have z3 := hx3.size
  have z4 := hx4.size
  have z5 := hx5.size
  have z6 := hx6.size
  have hlt := hO4.lt
  have hx06 := hx2.trans (hx3.trans (hx4.trans (hx5.trans hx6)))
  have hO6 := hO4.ex (hx5.trans hx6)
  have hL6 : LI w w6 3 (sv b5 1 1) [(a : Int)] := (hA5.ex hx6).li (by omega)
  have hbb : w.heap.size ≤ b := by omega
  have hh6 := hh.ex hx06
  repeat (first | (refine isO ?_; first | refine s_move ?_ | refine s_assign ?_ | (refine isCall ?_; refine s_lenI sl_ints rfl (by assumption) ?_)) | (refine isC ?_; first | refine c_sr ?_ | refine c_seq ?_ | refine c_block ?_) | (refine l_th ?_))
  refine c_loop (γ := Nat) 1152886320234764288 (fun i => [(45, .int .i64 (i : Int))]) (fun i w' => i ≤ m ∧ At w' b 106 (SE (.slice ga (gL R m n).length gc) (sv hb has.length has.length) (sv b5 1 1) (fun _ => 0) (holdN has i)) ∧ w6.grownBy w' (some b) ∧ Ex w w') (fun i => m - i) 0 ⟨rfl, trivial⟩ ⟨Nat.zero_le _, hA6, gb_refl _ _, hx06⟩ ?_
  rintro i ρ w7 ⟨hi, hA7, hgb, hx7⟩
  have hh7 := hh.ex hx7
  repeat (first | (refine isO ?_; (refine isBin ?_; refine s_lss rfl rfl ?_)) | (refine isC ?_; first | refine c_sr ?_ | refine c_seq ?_) | (refine l_th ?_))
  refine c_ifd rfl (fun h => ?_) (fun h => ?_)
  · have hi' : i < m := by omega
    have hil : i < has.length := by omega
    have hd1 := getD_m1 hil
    by_cases hm1 : has.getD i 0 = -1
    · have hst := holdN_m1 (has := has) (i := i) (by omega)
      repeat (first | (refine isO ?_; first | refine s_move ?_ | refine s_assign ?_ | (refine isBin ?_; first | refine s_inc rfl (by omega) ?_ | refine s_neqF rfl rfl (by omega) ?_) | (refine isIA ?_; refine s_ixI sl_ints ty_int rfl rfl rfl (by assumption) (by omega) ?_; intro _)) | (refine isC ?_; first | refine c_sr ?_ | refine c_th ?_ | refine c_seq ?_ | refine c_region ?_ | refine c_iff rfl ?_ | refine c_block ?_ | refine c_skip ?_) | (refine l_th ?_))
      exact loop_end (i + 1) (by (repeat (first | exact agree_refl _ _ | refine agree_upd rfl ?_ | refine agree_ext rfl ?_ | refine agree_mask rfl ?_))) ⟨rfl, trivial⟩ ⟨hi', by rw [hst]; exact hA7, hgb, hx7⟩ (by omega)
    · refine Exists.elim ((hF.ok i hi').resolve_left (by omega)) fun q hq => ?_
      have hq1 := hq.1
      have hq2 := hq.2.1
      have hq0 : has.getD i 0 = (q : Int) := by omega
      have hst := holdN_at hq2
      have hq8 : q < 8 := by omega
      repeat (first | (refine isO ?_; first | refine s_move ?_ | refine s_assign ?_ | (refine isBin ?_; first | refine s_inc rfl (by omega) ?_ | refine s_neqT rfl rfl (by omega) ?_) | (refine isIA ?_; refine s_ixI sl_ints ty_int rfl rfl rfl (by assumption) (by omega) ?_; intro _)) | (refine isC ?_; first | refine c_sr ?_ | refine c_th ?_ | refine c_seq ?_ | refine c_region ?_ | refine c_ift rfl ?_ | refine c_block ?_) | (refine l_th ?_))
      refine s_nil rfl ?_
      refine s_faN u_search rfl tyn_a8 rfl ?_
      refine s_iaO (n := q) u_a8 ty_int rfl (vint hq0) hq8 ?_
      refine s_stA (n := 11 + q) (u := .int .i64 ((i + 1 : Nat) : Int)) ty_int rfl rfl rfl hA7 (by rw [SE_len]; omega) ?_
      intro w8 hA8 hg8
      rw [SE_set_ho hq8, ← hst] at hA8
      repeat (first | (refine isO ?_; first | refine s_move ?_ | (refine isBin ?_; refine s_inc rfl (by omega) ?_)) | (refine isC ?_; refine c_region ?_) | (first | refine l_th ?_ | refine l_nil ?_))
      exact loop_end (i + 1) (by (repeat (first | exact agree_refl _ _ | refine agree_upd rfl ?_ | refine agree_ext rfl ?_ | refine agree_mask rfl ?_))) ⟨rfl, trivial⟩ ⟨hi', hA8, gb_trans hgb hg8, hx7.store hg8 hbb⟩ (by omega)
  · have n5b : b5 ≠ b := by omega
    have n5h : b5 ≠ hb := by omega
    have him : i = has.length := by omega
    subst him
    repeat (first | (refine isO ?_; first | refine s_move ?_ | refine s_assign ?_) | (refine isC ?_; first | refine c_sr ?_ | refine c_ret ?_ | refine c_exit ?_) | (refine l_th ?_))
    exact ret2 rfl rfl rfl ⟨b, hb, sv b5 1 1, rfl, hA7, hO6.grown hgb (fun e => by cases e; omega), hL6.kept hgb (.inr (fun e => n5b (Option.some.inj e))), ⟨fun e => n5h (Option.some.inj e), fun e => n5b (Option.some.inj e), by omega⟩, hbb, by omega, hx7⟩
end Go.Proofs.Ytifbgpkjbciblaa.Sal
end
