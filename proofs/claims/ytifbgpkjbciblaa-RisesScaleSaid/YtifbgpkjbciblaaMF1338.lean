/- Texts that YtifbgpkjbciblaaF133 leans on, laid together: V19 V22 L133. -/
import Derived.Test.YtifbgpkjbciblaaMF1337
section
/- Plain: all numbers so many times as great. -/
set_option maxRecDepth 100000
namespace Go.Proofs.Ytifbgpkjbciblaa.Sal
set_option linter.all false
def sclI (c : Int) (l : List Int) : List Int := l.map (c * ·)
theorem sclI_get (c : Int) (l : List Int) (k : Nat) : (sclI c l).getD k 0 = c * l.getD k 0 := by
  unfold sclI
  simp only [List.getD_eq_getElem?_getD, List.getElem?_map]
  cases l[k]? <;> simp
theorem sclI_len (c : Int) (l : List Int) : (sclI c l).length = l.length := by simp [sclI]
theorem gmx_scl {c : Int} (hc : 0 < c) (f : Nat → Int) : ∀ n, gmx (fun k => c * f k) n = c * gmx f n
  | 0 => by simp [gmx]
  | n + 1 => by
    rw [gmx_succ, gmx_succ, gmx_scl hc f n]
    by_cases h : gmx f n < f n
    · rw [if_pos h, if_pos (Int.mul_lt_mul_of_pos_left h hc)]
    · rw [if_neg h, if_neg (fun hh => h (Int.lt_of_mul_lt_mul_left hh (Int.le_of_lt hc)))]
section
variable {c : Int} {b : List (List Int)} {p : List Int}
theorem scl_row (b : List (List Int)) (c : Int) (i : Nat) : (b.map (sclI c)).getD i [] = sclI c (b.getD i []) := by
  simp only [List.getD_eq_getElem?_getD, List.getElem?_map]
  cases b[i]? <;> simp [sclI]
theorem scl_gD (c : Int) (b : List (List Int)) (p : List Int) (i k : Nat) : gD (b.map (sclI c)) (sclI c p) i k = c * gD b p i k := by
  unfold gD
  rw [scl_row, sclI_get, sclI_get, Int.mul_sub]
theorem scl_lenB (c : Int) (b : List (List Int)) (i : Nat) : lenB (b.map (sclI c)) i = lenB b i := by
  unfold lenB
  rw [scl_row, sclI_len]
theorem scl_dG (hc : 0 < c) (b : List (List Int)) (p : List Int) (i : Nat) : dG (b.map (sclI c)) (sclI c p) i = c * dG b p i := by
  rw [dG_eq, dG_eq, scl_lenB, ← gmx_scl hc]
  congr 1
  funext k
  exact scl_gD c b p i k
theorem scl_must (hc : 0 < c) : mustB (b.map (sclI c)) (sclI c p) = mustB b p := by
  funext i
  unfold mustB
  rw [scl_dG hc]
  congr 1
  have : c * dG b p i = 0 ↔ dG b p i = 0 := by
    rw [Int.mul_eq_zero]
    constructor
    · rintro (h | h)
      · omega
      · exact h
    · intro h; exact .inr h
  exact decide_eq_decide.2 this
theorem scl_RD (hc : 0 < c) : RD (b.map (sclI c)) (sclI c p) = RD b p := by
  funext i k
  unfold RD
  rw [scl_must hc, scl_lenB, scl_gD, scl_dG hc]
  congr 2
  exact decide_eq_decide.2 ⟨fun h => Int.eq_of_mul_eq_mul_left (by omega) h, fun h => by rw [h]⟩
theorem scl_setR (hc : 0 < c) (n : Nat) : setR (b.map (sclI c)) (sclI c p) n = setR b p n := by
  unfold setR
  rw [scl_RD hc, scl_must hc, List.length_map]
theorem scl_farIn (hc : 0 < c) (set : List Int) (i : Nat) : ∀ n, farIn (b.map (sclI c)) (sclI c p) set i n = sclI c (farIn b p set i n)
  | 0 => rfl
  | n + 1 => by
    unfold farIn
    rw [scl_farIn hc set i n]
    unfold sclI
    rw [List.map_append]
    congr 1
    by_cases h : set.contains (n : Int) = true
    · rw [if_pos h, if_pos h]; rfl
    · rw [if_neg h, if_neg h]
      have h1 := scl_dG hc b p i
      have h2 := scl_gD c b p i n
      unfold sclI at h1 h2
      rw [h1, h2, ← Int.mul_sub]; rfl
theorem scl_farOne (hc : 0 < c) (set : List Int) (n i : Nat) : farOne (b.map (sclI c)) (sclI c p) set n i = sclI c (farOne b p set n i) := by
  unfold farOne elseB
  rw [scl_RD hc, scl_farIn hc, scl_dG hc]
  split <;> rfl
theorem scl_farL (hc : 0 < c) (set : List Int) (n : Nat) (must : List Int) : ∀ j, farL (b.map (sclI c)) (sclI c p) set n must j = sclI c (farL b p set n must j)
  | 0 => rfl
  | j + 1 => by
    unfold farL
    rw [scl_farL hc set n must j, scl_farOne hc]
    unfold sclI
    rw [List.map_append]
theorem scl_mnL (hc : 0 < c) (l : List Int) : ∀ i, mnL (sclI c l) i = c * mnL l i
  | 0 => sclI_get c l 0
  | i + 1 => by
    show (if (sclI c l).getD (i + 1) 0 < mnL (sclI c l) i then (sclI c l).getD (i + 1) 0 else mnL (sclI c l) i) = c * (if l.getD (i + 1) 0 < mnL l i then l.getD (i + 1) 0 else mnL l i)
    rw [scl_mnL hc l i, sclI_get]
    by_cases h : l.getD (i + 1) 0 < mnL l i
    · rw [if_pos h, if_pos (Int.mul_lt_mul_of_pos_left h hc)]
    · rw [if_neg h, if_neg (fun hh => h (Int.lt_of_mul_lt_mul_left hh (Int.le_of_lt hc)))]
theorem scl_raise (c : Int) (p set : List Int) (x : Int) : raise (sclI c p) set (c * x) = sclI c (raise p set x) := by
  apply List.ext_getElem?
  intro k
  have e : (sclI c (raise p set x))[k]? = ((raise p set x)[k]?).map (c * ·) := by unfold sclI; rw [List.getElem?_map]
  rw [e, raise_at, raise_at, sclI_len]
  split
  · rw [sclI_get, Option.map_some, Int.mul_add]
    congr 2
    split
    · rfl
    · rw [Int.mul_zero]
  · rfl
theorem scl_step (hc : 0 < c) (n : Nat) : stepR (b.map (sclI c)) (sclI c p) n = (stepR b p n).map (sclI c) := by
  have h1 := scl_setR (b := b) (p := p) hc n
  unfold stepR
  cases hs : setR b p n with
  | none => rw [hs] at h1; simp only [h1]; rfl
  | some l =>
    rw [hs] at h1
    simp only [h1, Option.map_some]
    congr 1
    rw [← scl_raise, scl_must hc, List.length_map]
    congr 1
    unfold farBy
    rw [scl_farL hc, sclI_len, scl_mnL hc]
end
/-- Two that go by the same steps end alike. -/
theorem ends_alike {st : List Int → Option (List Int)} {L L' : List (List Int)} (h0 : 0 < L.length) (h0' : 0 < L'.length) (hf : L.getD 0 [] = L'.getD 0 []) (hn : ∀ i, i + 1 < L.length → st (L.getD i []) = some (L.getD (i + 1) [])) (hl : st (L.getD (L.length - 1) []) = none)
    (hn' : ∀ i, i + 1 < L'.length → st (L'.getD i []) = some (L'.getD (i + 1) [])) (hl' : st (L'.getD (L'.length - 1) []) = none) : endL L = endL L' := by
  have key : ∀ i, i < L.length → i < L'.length → L.getD i [] = L'.getD i [] := by
    intro i
    induction i with
    | zero => intro _ _; exact hf
    | succ i ih =>
      intro h1 h2
      have := hn i h1
      rw [ih (by omega) (by omega), hn' i h2] at this
      exact (Option.some.inj this).symm
  rcases Nat.lt_trichotomy L.length L'.length with h | h | h
  · exfalso
    have := key (L.length - 1) (by omega) (by omega)
    rw [this, hn' (L.length - 1) (by omega)] at hl
    cases hl
  · unfold endL; rw [← h]; exact key _ (by omega) (by omega)
  · exfalso
    have := key (L'.length - 1) (by omega) (by omega)
    rw [← this, hn (L'.length - 1) (by omega)] at hl'
    cases hl'
theorem end_scl {c : Int} (hc : 0 < c) {res : List Int} {b : List (List Int)} {L L' : List (List Int)} (hR : RunS res b L) (hR' : RunS (sclI c res) (b.map (sclI c)) L') : endL L' = sclI c (endL L) := by
  have hg : ∀ i, (L.map (sclI c)).getD i [] = sclI c (L.getD i []) := fun i => scl_row L c i
  have hpos := hR.pos
  have := ends_alike (st := fun q => stepR (b.map (sclI c)) q res.length) (L := L') (L' := L.map (sclI c)) hR'.pos (by simpa using hpos) (by rw [hR'.fst, hg, hR.fst])
    (fun i hi => by have := hR'.nxt i hi; rw [sclI_len] at this; exact this) (by have := hR'.lst; rw [sclI_len] at this; exact this)
    (fun i hi => by
      rw [List.length_map] at hi
      show stepR (b.map (sclI c)) ((L.map (sclI c)).getD i []) res.length = _
      rw [hg, hg, scl_step hc, hR.nxt i hi]; rfl)
    (by
      show stepR (b.map (sclI c)) ((L.map (sclI c)).getD ((L.map (sclI c)).length - 1) []) res.length = none
      rw [List.length_map, hg, scl_step hc, hR.lst]; rfl)
  rw [this]
  unfold endL
  rw [List.length_map, hg]
end Go.Proofs.Ytifbgpkjbciblaa.Sal
end
section
/- V22: lists all of whose numbers are so many times as great, one by one. -/
set_option maxRecDepth 100000
namespace Go.Proofs.Ytifbgpkjbciblaa.Sal
open Go.RowKit
set_option linter.all false
theorem Mat.grownO {w w' : World} {T E : TypeId} {b c : Nat} {rb rc : Nat → Nat} {g : List (List Int)} {o : Option Nat} (h : Mat w T E b c rb rc g) (hg : w.grownBy w' o) (h1 : o ≠ some b) (h2 : ∀ i, i < g.length → o ≠ some (rb i)) : Mat w' T E b c rb rc g := by
  obtain ⟨⟨sp, k1⟩, k2, k3, k4, k5⟩ := h
  exact ⟨⟨sp, k1.grown hg h1⟩, k2, k3, fun i hi => ⟨(k4 i hi).1.grown hg (h2 i hi), (k4 i hi).2⟩, k5⟩
/-- The first ones so many times as great. -/
def sclT (c : Int) (l : List Int) (k : Nat) : List Int := (List.range l.length).map fun j => if j < k then c * l.getD j 0 else l.getD j 0
theorem sclT_len (c : Int) (l : List Int) (k : Nat) : (sclT c l k).length = l.length := by simp [sclT]
theorem sclT_at (c : Int) (l : List Int) (k i : Nat) : (sclT c l k)[i]? = if i < l.length then some (if i < k then c * l.getD i 0 else l.getD i 0) else none := by
  unfold sclT
  by_cases h : i < l.length
  · rw [if_pos h]; simp only [List.getElem?_map, List.getElem?_range h, Option.map_some]
  · rw [if_neg h]; simp; omega
theorem sclT_zero (c : Int) (l : List Int) : sclT c l 0 = l := by
  apply List.ext_getElem?
  intro i
  rw [sclT_at]
  by_cases h : i < l.length
  · simp [h]
  · simp [h]
theorem sclT_all (c : Int) (l : List Int) : sclT c l l.length = sclI c l := by
  apply List.ext_getElem?
  intro i
  rw [sclT_at]
  by_cases h : i < l.length
  · simp [sclI, h]
  · simp [sclI, h]
theorem sclT_get {c : Int} {l : List Int} {k : Nat} (hk : k < l.length) : (sclT c l k).getD k 0 = l.getD k 0 := by rw [List.getD_eq_getElem?_getD, sclT_at, if_pos hk, if_neg (Nat.lt_irrefl _)]; rfl
theorem sclT_succ {c : Int} {l : List Int} {k : Nat} (hk : k < l.length) : (sclT c l k).set k (c * l.getD k 0) = sclT c l (k + 1) := by
  apply List.ext_getElem?
  intro i
  rw [List.getElem?_set, sclT_at, sclT_at, sclT_len]
  by_cases e : k = i
  · subst e; simp [hk]
  · rw [if_neg e]
    by_cases h : i < l.length
    · rw [if_pos h, if_pos h]
      by_cases h1 : i < k
      · rw [if_pos h1, if_pos (by omega)]
      · rw [if_neg h1, if_neg (by omega)]
    · rw [if_neg h, if_neg h]
/-- Of the first bids all numbers. -/
def sclG (c : Int) (b : List (List Int)) (k : Nat) : List (List Int) := (List.range b.length).map fun i => if i < k then sclI c (b.getD i []) else b.getD i []
theorem sclG_len (c : Int) (b : List (List Int)) (k : Nat) : (sclG c b k).length = b.length := by simp [sclG]
theorem sclG_at (c : Int) (b : List (List Int)) (k i : Nat) : (sclG c b k)[i]? = if i < b.length then some (if i < k then sclI c (b.getD i []) else b.getD i []) else none := by
  unfold sclG
  by_cases h : i < b.length
  · rw [if_pos h]; simp only [List.getElem?_map, List.getElem?_range h, Option.map_some]
  · rw [if_neg h]; simp; omega
theorem sclG_zero (c : Int) (b : List (List Int)) : sclG c b 0 = b := by
  apply List.ext_getElem?
  intro i
  rw [sclG_at]
  by_cases h : i < b.length
  · simp [h]
  · simp [h]
theorem sclG_all (c : Int) (b : List (List Int)) : sclG c b b.length = b.map (sclI c) := by
  apply List.ext_getElem?
  intro i
  rw [sclG_at]
  by_cases h : i < b.length
  · simp [h]
  · simp [h]
theorem sclG_set0 {c : Int} {b : List (List Int)} {i : Nat} (hi : i < b.length) : (sclG c b i).set i (sclT c (b.getD i []) 0) = sclG c b i := by
  apply List.ext_getElem?
  intro k
  rw [List.getElem?_set, sclG_at, sclG_len, sclT_zero]
  by_cases e : i = k
  · subst e; simp [hi]
  · rw [if_neg e]
theorem sclG_succ {c : Int} {b : List (List Int)} {i : Nat} (hi : i < b.length) : (sclG c b i).set i (sclT c (b.getD i []) (b.getD i []).length) = sclG c b (i + 1) := by
  apply List.ext_getElem?
  intro k
  rw [List.getElem?_set, sclG_at, sclG_at, sclG_len, sclT_all]
  by_cases e : i = k
  · subst e; simp [hi]
  · rw [if_neg e]
    by_cases h : k < b.length
    · rw [if_pos h, if_pos h]
      by_cases h1 : k < i
      · rw [if_pos h1, if_pos (by omega)]
      · rw [if_neg h1, if_neg (by omega)]
    · rw [if_neg h, if_neg h]
theorem sclG_row {c : Int} {b : List (List Int)} {i : Nat} {l : List Int} (hi : i < b.length) : ((sclG c b i).set i l).getD i [] = l := by
  rw [List.getD_eq_getElem?_getD, List.getElem?_set]
  simp [sclG_len, hi]
end Go.Proofs.Ytifbgpkjbciblaa.Sal
end
section
/- The walk of salesroomlaw13.RisesScale. -/
set_option maxRecDepth 100000
namespace Go.Proofs.Ytifbgpkjbciblaa.Sal
open Go.RowKit
attribute [local irreducible] Go.Code.wpIn Go.wpListIn Ct Ints Rows Sl At Rw WJ
attribute [local irreducible] Wd Mat OwnI
set_option linter.all false
set_option maxHeartbeats 8000000 in
theorem RisesScale_ct (rv bv ov : Value) (res : List Int) (bids : List (List Int)) (ord : List Int) (x1 : Nat) (w : World) (hM : Mk w rv bv ov res bids ord) (hb1 : x1 < 256) :
    Ct Try.prog 5 #[.agg #[rv, bv, ov], .int .u8 (x1 : Int)] w fun u w' => u = .bool true ∧ Ex w w' := by
  refine Exists.elim in_mkt fun ti hti => ?_
  refine enter (N := 117) (vs := [.agg #[rv, bv, ov], .int .u8 (x1 : Int)]) Try.func5 rfl rfl rfl ?_
  repeat ((refine isC ?_; refine c_sr ?_))
  refine s_box (cs := [rv, bv, ov]) rfl rfl ?_
  intro b0 w0 hb0 hZ hx0 hs0
  have hM0 := hM.ex hx0
  repeat (first | (refine isO ?_; refine s_assign ?_) | (refine isC ?_; refine c_sr ?_) | (refine l_th ?_))
  refine s_ldV Try.underlying25 rfl (sz_mk _ _ _) rfl hZ ?_
  refine Or.elim (tfV (chkM res bids ord)) (fun hck => ?_) (fun hck => ?_)
  · have hOK := mkok hck
    refine Exists.elim (run_ex hOK) fun L hL => ?_
    have hR := hL.1
    have hLg := hL.2
    have hend := run_end hOK hR hLg
    have hn8 := hOK.n8
    have hm1 := hOK.m1
    have hm8 := hOK.m8
    have hol : ord.length = bids.length := ord_len hm8 (chk_parts hck).2.2.2.1
    have hrl : ∀ i, i < bids.length → (bids.getD i []).length ≤ 8 := fun i hi => by have := hOK.lens i hi; unfold lenB at this; omega
    refine s_call ok_rLeast rfl (Least_ok rv bv ov res bids ord L w0 hM0 hck hR) ?_
    rintro u w1 ⟨be, rfl, hOe, hbe, hx1⟩
    have hx01 := hx0.trans hx1
    have hZ1 := hZ.ex hx1
    have hM1 := hM.ex hx01
    have hel : (endL L).length = res.length := hend.2.1
    have hIe : Ints w1 (sv be res.length res.length) (endL L) := by have := hOe.ints; rw [show (L.getD (L.length - 1) []).length = res.length from hel] at this; exact this
    have hm9 : x1 % 9 < 9 := Nat.mod_lt _ (by omega)
    repeat (first | (refine isO ?_; first | refine s_move ?_ | refine s_assign ?_ | (refine isBin ?_; refine s_neqF rfl rfl (by omega) ?_) | refine s_extract rfl rfl ?_) | (refine isC ?_; first | refine c_sr ?_ | refine c_th ?_ | refine c_seq ?_ | refine c_iff rfl ?_) | (refine l_th ?_))
    refine s_conv (n := x1) (by kernel_rfl) Try.underlying3 rfl (by show _ ≤ 9223372036854775807; omega) ?_
    refine s_rem (m := x1) (n := 9) rfl rfl (by omega) ?_
    refine Exists.elim (show ∃ c : Nat, c = 1 + x1 % 9 from ⟨_, rfl⟩) fun c hc => ?_
    refine s_add rfl rfl ⟨by omega, by omega⟩ ?_
    refine s_re (v' := .int .i64 (c : Int)) (vint (by omega)) ?_
    have hc1 : 1 ≤ c := by omega
    have hc9 : c ≤ 9 := by omega
    have hbd : ∀ v : Int, 0 ≤ v ∧ v ≤ 1000000 → 0 ≤ (c : Int) * v ∧ (c : Int) * v ≤ 9000000 := fun v hv => ⟨Int.mul_nonneg (by omega) hv.1, Int.le_trans (Int.mul_le_mul (show (c : Int) ≤ 9 by omega) hv.2 hv.1 (by omega)) (by omega)⟩
    repeat (first | (refine isO ?_; refine s_assign ?_) | (refine isC ?_; refine c_sr ?_) | (refine l_th ?_))
    refine s_ldV Try.underlying25 rfl (sz_mk _ _ _) rfl hZ1 ?_
    refine s_call ok_TwinMarket rfl (TwinMarket_ct rv bv ov res bids ord w1 hM1 (by omega) (by omega) (fun i hi => by have := hrl i hi; omega) (by omega)) ?_
    rintro u w2 ⟨b1, c1, b2, c2, rb, rc, b3, c3, rfl, hT, hx2⟩
    refine s_alloc (cs := [.slice none 0 0, .slice none 0 0, .slice none 0 0]) hti.1 hti.2 rfl ?_
    intro bX w3 hbX hXA hx3 hs3
    refine s_stV (cs := [sv b1 res.length c1, sv b2 bids.length c2, sv b3 ord.length c3]) (sz_mk _ _ _) rfl rfl hXA rfl rfl ?_
    intro w4 hX4 hg4 hs4
    have z1 := hx1.size
    have z2 := hx2.size
    have z0 := hx0.size
    have z3 := hx3.size
    have hx24 : Ex w2 w4 := hx3.store hg4 (by omega)
    have hx14 := hx2.trans hx24
    have hr4 := hT.r.ex hx24
    have hb4 := hT.b.ex hx24
    have ho4 := hT.o.ex hx24
    have l1 := hT.r.lt
    have l3 := hT.o.lt
    have n12 := hT.n12
    have n13 := hT.n13
    have n23 := hT.n23
    have k1 := hT.l1
    have k2 := hT.l2
    have k3 := hT.l3
    have lb2 : b2 < w2.heap.size := Exists.elim (hT.b.cell (i := 0) (by omega)) fun cs hcs => hcs.1.lt
    have lrb : ∀ i, i < bids.length → rb i < w2.heap.size ∧ w1.heap.size ≤ rb i ∧ rb i ≠ b1 ∧ rb i ≠ b3 ∧ rb i ≠ b2 := fun i hi => ⟨(hT.b.own hi).lt, hT.lr i hi, (hT.nr i hi).1, (hT.nr i hi).2, by have h9 := hT.b; unfold Mat at h9; exact (h9.2.2.2.1 i hi).2⟩
    repeat (first | (refine isO ?_; refine s_assign ?_) | (refine isC ?_; first | refine c_sr ?_ | refine c_seq ?_ | refine c_block ?_) | (refine l_th ?_))
    refine c_loop (γ := Nat) 140736951484928 (fun k => [(9, .int .i64 (k : Int))]) (fun k W => k ≤ res.length ∧ OwnI W 3 b1 c1 (sclT (c : Int) res k) ∧ At W bX 25 [sv b1 res.length c1, sv b2 bids.length c2, sv b3 ord.length c3] ∧ Mat W 22 3 b2 c2 rb rc bids ∧ OwnI W 3 b3 c3 ord ∧ Ex w1 W ∧ w4.heap.size ≤ W.heap.size) (fun k => res.length - k) 0 ⟨rfl, trivial⟩
      ⟨Nat.zero_le _, by rw [sclT_zero]; exact hr4, hX4, hb4, ho4, hx14, Nat.le_refl _⟩ ?_
    rintro k ρ W ⟨hk, hrW, hXW, hbW, hoW, hxW, hzW⟩
    have hsl : (sclT (c : Int) res k).length = res.length := sclT_len _ _ _
    repeat (first | (refine isO ?_; first | refine s_move ?_ | (refine isBin ?_; refine s_lss rfl rfl ?_) | (refine isCall ?_; refine s_len sl_ints rfl ?_) | (refine isLD ?_; refine s_ldA ty_ints rfl (by assumption) rfl ?_)) | (refine isO ?_; refine s_fa Try.underlying25 rfl ty_ints rfl ?_) | (refine isC ?_; first | refine c_sr ?_ | refine c_seq ?_) | (refine l_th ?_))
    refine c_ifd rfl (fun h => ?_) (fun h => ?_)
    · have hk' : k < res.length := by omega
      have hrI := hrW.ints
      rw [hsl] at hrI
      have hgk := sclT_get (c := (c : Int)) hk'
      have hbk := hbd _ (hOK.rb k)
      have hbk1 := hOK.rb k
      repeat ((refine isC ?_; first | refine c_th ?_ | refine c_seq ?_ | refine c_block ?_))
      refine c_drawO (Ex.refl W) 2048 8 [(0, true), (1, true), (2, true), (3, true), (4, true), (5, true), (6, true), (7, true), (8, true), (9, true), (10, true), (11, false)] mixed (by kernel_rfl) ?_
      have hxd := Ex.drew W
      refine d_fa rfl Try.underlying25 rfl ty_ints rfl ?_
      refine d_ldA rfl ty_ints rfl hXW rfl ?_
      refine d_move rfl ?_
      refine d_move rfl ?_
      refine d_fa rfl Try.underlying25 rfl ty_ints rfl ?_
      refine d_ldA rfl ty_ints rfl hXW rfl ?_
      refine d_move rfl ?_
      refine d_iaI (n := k) rfl sl_ints ty_int rfl rfl hrI (by omega) ?_
      intro ad hc
      refine d_ld rfl ty_int rfl hc ?_
      refine d_re (v' := .int .i64 (res.getD k 0)) (vint hgk) ?_
      refine d_mul rfl rfl rfl ⟨by omega, by omega⟩ ?_
      refine d_iaA (n := k) rfl sl_ints ty_int rfl rfl hk' ?_
      refine d_ch rfl ?_
      refine s_stO (q := (c : Int) * res.getD k 0) ty_int rfl rfl (hrW.ex hxd) (by omega) ?_
      intro W3 hr3 hg3
      refine l_nil ⟨rfl, .inl rfl, ?_⟩
      refine d_nil ?_
      rw [sclT_succ hk'] at hr3
      have zd := hxd.size
      have z3W := hg3.size
      have hX3 := (hXW.ex hxd).grown hg3 (fun e => by have := Option.some.inj e; omega)
      have hb3' := (hbW.ex hxd).grownO hg3 (fun e => by have := Option.some.inj e; omega) (fun i hi e => by have := Option.some.inj e; have := lrb i hi; omega)
      have ho3' := (hoW.ex hxd).grown hg3 (fun e => by have := Option.some.inj e; omega)
      repeat (first | (refine isO ?_; first | refine s_move ?_ | refine s_assign ?_ | (refine isBin ?_; refine s_inc rfl (by omega) ?_)) | (refine isC ?_; refine c_region ?_) | (refine l_th ?_))
      exact loop_end (k + 1) (by (repeat (first | exact agree_refl _ _ | refine agree_upd rfl ?_ | refine agree_ext rfl ?_ | refine agree_mask rfl ?_))) ⟨vint (by omega), trivial⟩ ⟨hk', hr3, hX3, hb3', ho3', (hxW.trans hxd).store hg3 (by omega), by omega⟩ (by show res.length - (k + 1) < res.length - k; omega)
    · have hkn : k = res.length := by omega
      subst hkn
      rw [sclT_all] at hrW
      have hscl : (sclI (c : Int) res).length = res.length := sclI_len _ _
      repeat (first | (refine isO ?_; refine s_assign ?_) | (refine isC ?_; first | refine c_sr ?_ | refine c_seq ?_ | refine c_block ?_ | refine c_exit ?_) | (refine l_th ?_))
      refine c_loop (γ := Nat) 2417851639088520861060096 (fun k => [(10, .int .i64 (k : Int))]) (fun i V => i ≤ bids.length ∧ OwnI V 3 b1 c1 (sclI (c : Int) res) ∧ At V bX 25 [sv b1 res.length c1, sv b2 bids.length c2, sv b3 ord.length c3] ∧ Mat V 22 3 b2 c2 rb rc (sclG (c : Int) bids i) ∧ OwnI V 3 b3 c3 ord ∧ Ex w1 V ∧ w4.heap.size ≤ V.heap.size) (fun i => bids.length - i) 0 ⟨rfl, trivial⟩
        ⟨Nat.zero_le _, hrW, hXW, by rw [sclG_zero]; exact hbW, hoW, hxW, hzW⟩ ?_
      rintro i ρ2 V ⟨hi, hrV, hXV, hbV, hoV, hxV, hzV⟩
      have hgl : (sclG (c : Int) bids i).length = bids.length := sclG_len _ _ _
      repeat (first | (refine isO ?_; first | refine s_move ?_ | (refine isBin ?_; refine s_lss rfl rfl ?_) | (refine isCall ?_; refine s_len sl_rows rfl ?_)) | (refine isO ?_; first | refine s_fa Try.underlying25 rfl ty_rows rfl ?_ | refine s_ldA ty_rows rfl (by assumption) rfl ?_) | (refine isC ?_; first | refine c_sr ?_ | refine c_seq ?_) | (refine l_th ?_))
      refine c_ifd rfl (fun h2 => ?_) (fun h2 => ?_)
      · have hi' : i < bids.length := by omega
        have hbb := hOK.bb i hi'
        have hrli := hrl i hi'
        repeat (first | (refine isO ?_; refine s_assign ?_) | (refine isC ?_; first | refine c_sr ?_ | refine c_th ?_ | refine c_seq ?_ | refine c_block ?_) | (refine l_th ?_))
        refine c_loop (γ := Nat) 2417851621214859839932416 (fun k => [(11, .int .i64 (k : Int))]) (fun k U => k ≤ (bids.getD i []).length ∧ OwnI U 3 b1 c1 (sclI (c : Int) res) ∧ At U bX 25 [sv b1 res.length c1, sv b2 bids.length c2, sv b3 ord.length c3] ∧ Mat U 22 3 b2 c2 rb rc ((sclG (c : Int) bids i).set i (sclT (c : Int) (bids.getD i []) k)) ∧ OwnI U 3 b3 c3 ord ∧ Ex w1 U ∧ w4.heap.size ≤ U.heap.size) (fun k => (bids.getD i []).length - k) 0 ⟨rfl, trivial⟩
          ⟨Nat.zero_le _, hrV, hXV, by rw [sclG_set0 hi']; exact hbV, hoV, hxV, hzV⟩ ?_
        rintro k ρ3 U ⟨hk, hrU, hXU, hbU, hoU, hxU, hzU⟩
        have hsl3 : (sclT (c : Int) (bids.getD i []) k).length = (bids.getD i []).length := sclT_len _ _ _
        have hglk : ((sclG (c : Int) bids i).set i (sclT (c : Int) (bids.getD i []) k)).length = bids.length := by rw [List.length_set]; exact hgl
        have hrow : ((sclG (c : Int) bids i).set i (sclT (c : Int) (bids.getD i []) k)).getD i [] = sclT (c : Int) (bids.getD i []) k := sclG_row hi'
        refine Exists.elim (hbU.cell (i := i) (by omega)) fun cs hcs => ?_
        have hcA := hcs.1
        have hci : cs[i]? = some (sv (rb i) (bids.getD i []).length (rc i)) := by have := hcs.2; rw [hrow, hsl3] at this; exact this
        repeat (first | (refine isO ?_; refine s_move ?_) | (refine isO ?_; first | refine s_fa Try.underlying25 rfl ty_rows rfl ?_ | refine s_ldA ty_rows rfl (by assumption) rfl ?_) | (refine isC ?_; first | refine c_sr ?_ | refine c_seq ?_))
        refine s_iaA (n := i) sl_rows ty_ints rfl rfl hi' ?_
        refine s_ldA ty_ints rfl hcA hci ?_
        refine s_len sl_ints rfl ?_
        repeat (first | (refine isO ?_; (refine isBin ?_; refine s_lss rfl rfl ?_)) | (refine l_th ?_))
        refine c_ifd rfl (fun h3 => ?_) (fun h3 => ?_)
        · have hk' : k < (bids.getD i []).length := by omega
          have hOi := hbU.own (i := i) (by omega)
          rw [hrow] at hOi
          have hII := hOi.ints
          rw [hsl3] at hII
          have hgk := sclT_get (c := (c : Int)) hk'
          have hbk1 := bd_bid hbb k
          have hbk := hbd _ hbk1
          repeat ((refine isC ?_; first | refine c_th ?_ | refine c_seq ?_ | refine c_block ?_))
          refine c_drawO (Ex.refl U) 131072 8 [(0, true), (1, true), (2, true), (3, true), (4, true), (5, true), (6, true), (7, true), (8, true), (9, true), (10, true), (11, true), (12, true), (13, true), (14, true), (15, true), (16, true), (17, false)] mixed (by kernel_rfl) ?_
          have hxd := Ex.drew U
          refine d_fa rfl Try.underlying25 rfl ty_rows rfl ?_
          refine d_ldA rfl ty_rows rfl hXU rfl ?_
          refine d_move rfl ?_
          refine d_iaA (n := i) rfl sl_rows ty_ints rfl rfl hi' ?_
          refine d_ldA rfl ty_ints rfl hcA hci ?_
          refine d_move rfl ?_
          refine d_move rfl ?_
          refine d_fa rfl Try.underlying25 rfl ty_rows rfl ?_
          refine d_ldA rfl ty_rows rfl hXU rfl ?_
          refine d_move rfl ?_
          refine d_iaA (n := i) rfl sl_rows ty_ints rfl rfl hi' ?_
          refine d_ldA rfl ty_ints rfl hcA hci ?_
          refine d_move rfl ?_
          refine d_iaI (n := k) rfl sl_ints ty_int rfl rfl hII (by omega) ?_
          intro ad hc
          refine d_ld rfl ty_int rfl hc ?_
          refine d_re (v' := .int .i64 ((bids.getD i []).getD k 0)) (vint hgk) ?_
          refine d_mul rfl rfl rfl ⟨by omega, by omega⟩ ?_
          refine d_iaA (n := k) rfl sl_ints ty_int rfl rfl hk' ?_
          refine d_ch rfl ?_
          refine s_stO (q := (c : Int) * (bids.getD i []).getD k 0) ty_int rfl rfl (hOi.ex hxd) (by omega) ?_
          intro U3 hr3 hg3
          refine l_nil ⟨rfl, .inl rfl, ?_⟩
          refine d_nil ?_
          rw [sclT_succ hk'] at hr3
          have hlr := lrb i hi'
          have zd := hxd.size
          have z3U := hg3.size
          have hX3 := (hXU.ex hxd).grown hg3 (fun e => by have := Option.some.inj e; omega)
          have hbp := (hbU.ex hxd).put (i := i) (l := sclT (c : Int) (bids.getD i []) (k + 1)) (by omega) (by rw [hrow, hsl3, sclT_len]) hr3 hg3
          rw [List.set_set] at hbp
          have ho3' := (hoU.ex hxd).grown hg3 (fun e => by have := Option.some.inj e; omega)
          have hr3' := (hrU.ex hxd).grown hg3 (fun e => by have := Option.some.inj e; omega)
          repeat (first | (refine isO ?_; first | refine s_move ?_ | refine s_assign ?_ | (refine isBin ?_; refine s_inc rfl (by omega) ?_)) | (refine isC ?_; refine c_region ?_) | (refine l_th ?_))
          exact loop_end (k + 1) (by (repeat (first | exact agree_refl _ _ | refine agree_upd rfl ?_ | refine agree_ext rfl ?_ | refine agree_mask rfl ?_))) ⟨vint (by omega), trivial⟩ ⟨hk', hr3', hX3, hbp, ho3', (hxU.trans hxd).store hg3 (by omega), by omega⟩ (by show (bids.getD i []).length - (k + 1) < (bids.getD i []).length - k; omega)
        · have hkn : k = (bids.getD i []).length := by omega
          subst hkn
          rw [sclG_succ hi'] at hbU
          repeat (first | (refine isO ?_; first | refine s_move ?_ | refine s_assign ?_ | (refine isBin ?_; refine s_inc rfl (by omega) ?_)) | (refine isC ?_; first | refine c_region ?_ | refine c_exit ?_) | (refine l_th ?_))
          exact loop_end (i + 1) (by (repeat (first | exact agree_refl _ _ | refine agree_upd rfl ?_ | refine agree_ext rfl ?_ | refine agree_mask rfl ?_))) ⟨vint (by omega), trivial⟩ ⟨hi', hrU, hXU, hbU, hoU, hxU, hzU⟩ (by show bids.length - (i + 1) < bids.length - i; omega)
      · have hin : i = bids.length := by omega
        subst hin
        rw [sclG_all] at hbV
        have hbl : (bids.map (sclI (c : Int))).length = bids.length := by simp
        have hRV : Rows V (sv b2 bids.length c2) (bids.map (sclI (c : Int))) := by have := hbV.rows; rw [hbl] at this; exact this
        have hIV : Ints V (sv b1 res.length c1) (sclI (c : Int) res) := by have := hrV.ints; rw [hscl] at this; exact this
        have hMk : Mk V (sv b1 res.length c1) (sv b2 bids.length c2) (sv b3 ord.length c3) (sclI (c : Int) res) (bids.map (sclI (c : Int))) ord := ⟨hIV, hRV, hoV.ints⟩
        repeat ((refine isC ?_; first | refine c_sr ?_ | refine c_exit ?_))
        refine s_ldV Try.underlying25 rfl (sz_mk _ _ _) rfl hXV ?_
        refine Or.elim (tfV (chkM (sclI (c : Int) res) (bids.map (sclI (c : Int))) ord)) (fun hck2 => ?_) (fun hck2 => ?_)
        · have hOK2 := mkok hck2
          refine Exists.elim (run_ex hOK2) fun L2 hL2 => ?_
          have hes : endL L2 = sclI (c : Int) (endL L) := end_scl (by omega) hR hL2.1
          refine s_call ok_rLeast rfl (Least_ok _ _ _ _ _ _ L2 V hMk hck2 hL2.1) ?_
          rintro u V2 ⟨bn, rfl, hOn, hbn, hx2V⟩
          have hOn' : OwnI V2 3 bn res.length (sclI (c : Int) (endL L)) := by rw [← hes]; have := hOn; rw [hscl] at this; exact this
          have hIn := hOn'.ints
          rw [sclI_len, hel] at hIn
          have hIe2 := hIe.ex (hxV.trans hx2V)
          rw [hscl]
          have hsl3 : (sclI (c : Int) (endL L)).length = res.length := by rw [sclI_len, hel]
          repeat (first | (refine isO ?_; first | refine s_move ?_ | refine s_assign ?_ | (refine isBin ?_; refine s_neqF rfl rfl (by omega) ?_) | (refine isCall ?_; refine s_lenI sl_ints rfl (by assumption) ?_) | refine s_extract rfl rfl ?_) | (refine isC ?_; first | refine c_sr ?_ | refine c_th ?_ | refine c_seq ?_ | refine c_iff rfl ?_ | refine c_block ?_) | (refine l_th ?_))
          refine c_loop (γ := Nat) 83076115911257127941787192915935248 (fun k => [(14, .int .i64 (k : Int))]) (fun k U => k ≤ res.length ∧ Ex V2 U) (fun k => res.length - k) 0 ⟨rfl, trivial⟩ ⟨Nat.zero_le _, Ex.refl _⟩ ?_
          rintro k ρ3 U ⟨hk, hxU⟩
          have hInU := hIn.ex hxU
          have hIeU := hIe2.ex hxU
          repeat (first | (refine isO ?_; first | refine s_move ?_ | (refine isBin ?_; refine s_lss rfl rfl ?_) | (refine isCall ?_; refine s_lenI sl_ints rfl (by assumption) ?_)) | (refine isC ?_; first | refine c_sr ?_ | refine c_seq ?_) | (refine l_th ?_))
          refine c_ifd rfl (fun h3 => ?_) (fun h3 => ?_)
          · have hk' : k < res.length := by omega
            have hge := sclI_get (c : Int) (endL L) k
            have hbk1 := hend.2.2 k hk'
            have hbk2 := hOK.rb k
            have hbk := hbd ((endL L).getD k 0) ⟨by omega, by omega⟩
            repeat ((refine isC ?_; first | refine c_th ?_ | refine c_seq ?_ | refine c_block ?_))
            refine c_drawO (Ex.refl U) 0 8 [(0, true), (1, true), (2, true), (3, true), (4, true), (5, true), (6, true), (7, true), (8, true), (9, true), (10, true)] mixed (by kernel_rfl) ?_
            have hxd := Ex.drew U
            refine d_move rfl ?_
            refine d_move rfl ?_
            refine d_iaI (n := k) rfl sl_ints ty_int rfl rfl hInU (by omega) ?_
            intro ad hc
            refine d_ld rfl ty_int rfl hc ?_
            refine d_move rfl ?_
            refine d_move rfl ?_
            refine d_move rfl ?_
            refine d_iaI (n := k) rfl sl_ints ty_int rfl rfl hIeU (by omega) ?_
            intro ad2 hc2
            refine d_ld rfl ty_int rfl hc2 ?_
            refine d_mul rfl rfl rfl ⟨by omega, by omega⟩ ?_
            refine d_neq rfl rfl rfl ?_
            refine d_re (v' := .bool false) (vbool (decide_eq_false (fun hh => hh hge))) ?_
            refine d_nil ?_
            repeat (first | (refine isO ?_; first | refine s_move ?_ | refine s_assign ?_ | (refine isBin ?_; refine s_inc rfl (by omega) ?_)) | (refine isC ?_; first | refine c_region ?_ | refine c_iff rfl ?_ | refine c_skip ?_) | (refine l_th ?_))
            exact loop_end (k + 1) (by (repeat (first | exact agree_refl _ _ | refine agree_upd rfl ?_ | refine agree_ext rfl ?_ | refine agree_mask rfl ?_))) ⟨vint (by omega), trivial⟩ ⟨hk', hxU.trans hxd⟩ (by show res.length - (k + 1) < res.length - k; omega)
          · repeat ((refine isC ?_; first | refine c_sr ?_ | refine c_exit ?_))
            refine s_call ok_lives rfl (lives_ct U) ?_
            rintro u V4 ⟨rfl, hx4V⟩
            repeat (first | (refine isO ?_; refine s_assign ?_) | (refine isC ?_; refine c_ret ?_) | (refine l_th ?_))
            exact ret1 rfl rfl ⟨rfl, hx01.trans (hxV.trans (hx2V.trans (hxU.trans hx4V)))⟩
        · refine s_call ok_rLeast rfl (Least_bad _ _ _ _ _ _ V hMk hck2) ?_
          rintro u V2 ⟨rfl, hx2V⟩
          repeat (first | (refine isO ?_; first | refine s_move ?_ | refine s_assign ?_ | (refine isBin ?_; refine s_neqT rfl rfl (by omega) ?_) | refine s_extract rfl rfl ?_) | (refine isC ?_; first | refine c_sr ?_ | refine c_seq ?_ | refine c_ift rfl ?_) | (refine l_th ?_))
          refine s_ldV Try.underlying25 rfl (sz_mk _ _ _) rfl (hXV.ex hx2V) ?_
          refine s_call ok_mcheck rfl (mcheck_ct _ _ _ _ _ _ V2 (hMk.ex hx2V)) ?_
          rintro u V3 ⟨rfl, hx3V⟩
          refine s_re (v' := .bool false) (vbool hck2) ?_
          repeat ((refine isO ?_; first | refine s_move ?_ | (refine isG ?_; refine g_yes rfl rfl ?_) | refine s_not rfl ?_))
          refine s_call ok_lives rfl (lives_ct V3) ?_
          rintro u V4 ⟨rfl, hx4V⟩
          repeat (first | (refine isO ?_; first | refine s_assign ?_ | (refine isPick ?_; refine s_pickt rfl rfl ?_)) | (refine isC ?_; refine c_ret ?_) | (first | refine l_th ?_ | refine th_ret ?_))
          exact ret1 rfl rfl ⟨rfl, hx01.trans (hxV.trans (hx2V.trans (hx3V.trans hx4V)))⟩
  · refine s_call ok_rLeast rfl (Least_bad rv bv ov res bids ord w0 hM0 hck) ?_
    rintro u w1 ⟨rfl, hx1⟩
    repeat (first | (refine isO ?_; first | refine s_move ?_ | refine s_assign ?_ | (refine isBin ?_; refine s_neqT rfl rfl (by omega) ?_) | refine s_extract rfl rfl ?_) | (refine isC ?_; first | refine c_sr ?_ | refine c_seq ?_ | refine c_ift rfl ?_) | (refine l_th ?_))
    refine s_call ok_lives rfl (lives_ct w1) ?_
    rintro u w2 ⟨rfl, hx2⟩
    repeat (first | (refine isO ?_; refine s_assign ?_) | (refine isC ?_; refine c_ret ?_) | (first | refine l_th ?_ | refine th_ret ?_))
    exact ret1 rfl rfl ⟨rfl, hx0.trans (hx1.trans hx2)⟩
end Go.Proofs.Ytifbgpkjbciblaa.Sal
end
