/- Plain: what the laws of the matchings say of the counts. -/
import Derived.Test.YtkhnohnkcdcajaaP7
namespace Go.Proofs.Ytkhnohnkcdcajaa.Sal
set_option linter.all false
theorem rowN_cnt (p : Nat → Bool) : ∀ m, (rowN m p).length = cnt p m
  | 0 => rfl
  | m + 1 => by
    have ih := rowN_cnt p m
    unfold rowN at ih ⊢
    rw [List.range_succ, List.filter_append, List.length_append, ih]
    show _ = cnt p m + (if p m = true then 1 else 0)
    cases h : p m <;> simp [h]
theorem rowL_cnt (p : Nat → Bool) (m : Nat) : (rowL m p).length = cnt p m := by rw [rowL_len, rowN_cnt]
theorem nearP_nb {R : Nat → Nat → Bool} {m : Nat} (p : Nat → Bool) (k : Nat) : nearP R m (rowL m p) k = nb R m p k := by
  rw [Bool.eq_iff_iff, nb_iff]
  unfold nearP
  simp only [List.any_eq_true, List.mem_range, Bool.and_eq_true]
  constructor
  · rintro ⟨i, hi, h1, h2⟩
    obtain ⟨i', h3, h4, h5⟩ := (rowL_has m p (i : Int)).1 h1
    have : i = i' := by omega
    subst this
    exact ⟨i, hi, h4, h2⟩
  · rintro ⟨i, hi, h1, h2⟩
    exact ⟨i, hi, (rowL_has m p (i : Int)).2 ⟨i, hi, h1, rfl⟩, h2⟩
theorem near_len {R : Nat → Nat → Bool} {m n : Nat} (p : Nat → Bool) : (rowL n (nearP R m (rowL m p))).length = cnt (nb R m p) n := by
  rw [rowL_cnt]; exact cnt_congr n fun k _ => nearP_nb p k
theorem bits_ex : ∀ (m : Nat) (T : Nat → Bool), ∃ x, x < 2 ^ m ∧ ∀ j, j < m → x.testBit j = T j
  | 0, _ => ⟨0, by simp, fun j h => by omega⟩
  | m + 1, T => by
    obtain ⟨x, h1, h2⟩ := bits_ex m (fun j => T (j + 1))
    refine ⟨2 * x + (if T 0 = true then 1 else 0), by rw [Nat.pow_succ]; split <;> omega, fun j hj => ?_⟩
    cases j with
    | zero =>
      rw [Nat.testBit_zero]
      cases hT : T 0 with
      | true => simp only [if_true]; exact decide_eq_true (by omega)
      | false => simp only [Bool.false_eq_true, if_false]; exact decide_eq_false (by omega)
    | succ j =>
      rw [Nat.testBit_succ, ← h2 j (by omega)]
      congr 1
      split <;> omega
theorem partsL_len (m : Nat) : (partsL m).length = 2 ^ m := by simp [partsL]
theorem partsL_get {m x : Nat} (h : x < 2 ^ m) : (partsL m).getD x [] = partL m x := by simp [partsL, h]
/-- The most by which a part is more than what is near to it, of the first parts. -/
def shortN (R : Nat → Nat → Bool) (m n : Nat) : Nat → Int
  | 0 => 0
  | x + 1 => if shortN R m n x < ((partL m x).length : Int) - ((rowL n (nearP R m (partL m x))).length : Int) then ((partL m x).length : Int) - ((rowL n (nearP R m (partL m x))).length : Int) else shortN R m n x
theorem short_le {R : Nat → Nat → Bool} {m n : Nat} (hn : n ≤ 8) : ∀ x, 0 ≤ shortN R m n x ∧ shortN R m n x + (rkm R m n : Int) ≤ (m : Int)
  | 0 => by have := rkm_le R m n; unfold shortN; omega
  | x + 1 => by
    have ih := short_le (R := R) (m := m) hn x
    have hu := rkm_up (R := R) (m := m) hn (fun i => x.testBit i)
    unfold shortN
    unfold partL
    rw [near_len, rowL_cnt]
    split <;> omega
theorem short_ge {R : Nat → Nat → Bool} {m n : Nat} (x : Nat) : ∀ y, x < y → ((partL m x).length : Int) - ((rowL n (nearP R m (partL m x))).length : Int) ≤ shortN R m n y
  | y + 1, h => by
    by_cases e : x = y
    · subst e; unfold shortN; split <;> omega
    · have ih := short_ge (R := R) (m := m) (n := n) x y (by omega)
      have e2 : shortN R m n (y + 1) = if shortN R m n y < ((partL m y).length : Int) - ((rowL n (nearP R m (partL m y))).length : Int) then ((partL m y).length : Int) - ((rowL n (nearP R m (partL m y))).length : Int) else shortN R m n y := rfl
      rw [e2]
      split <;> omega
/-- Hall and Ore. -/
theorem short_all {R : Nat → Nat → Bool} {m n : Nat} (hn : n ≤ 8) : (rkm R m n : Int) = (m : Int) - shortN R m n (2 ^ m) := by
  obtain ⟨T, hT, hc⟩ := rkm_at (R := R) (m := m) hn
  obtain ⟨x, h1, h2⟩ := bits_ex m T
  have hs := short_ge (R := R) (m := m) (n := n) x (2 ^ m) h1
  have hl := short_le (R := R) (m := m) hn (2 ^ m)
  unfold partL at hs
  rw [near_len, rowL_cnt] at hs
  have e1 : cnt (fun i => x.testBit i) m = cnt T m := cnt_congr m fun j hj => h2 j hj
  have e2 : cnt (nb R m (fun i => x.testBit i)) n = cnt (nb R m T) n := cnt_congr n fun k _ => by
    rw [Bool.eq_iff_iff, nb_iff, nb_iff]
    constructor
    · rintro ⟨i, hi, h3, h4⟩; exact ⟨i, hi, by rw [← h2 i hi]; exact h3, h4⟩
    · rintro ⟨i, hi, h3, h4⟩; exact ⟨i, hi, by rw [h2 i hi]; exact h3, h4⟩
  omega
theorem cnt_some {sl : List Int} {m : Nat} (h : risB (-1) sl (m : Int) = true) : cnt (fun i => sl.contains (i : Int)) m = sl.length := by
  have := ris_rowL h
  rw [← rowL_cnt, ← this]
/-- All of any part of them can. -/
theorem all_part {R : Nat → Nat → Bool} {m n : Nat} (hn : n ≤ 8) {sl less : List Int} (hs : risB (-1) sl (m : Int) = true) (hl : risB (-1) less (m : Int) = true) (hsub : ∀ q, less.contains q = true → sl.contains q = true) (h : rkm (Rsome sl R) m n = sl.length) : rkm (Rsome less R) m n = less.length := by
  have h1 := rkm_hall (R := R) (m := m) hn (fun i => sl.contains (i : Int))
  have h2 := rkm_hall (R := R) (m := m) hn (fun i => less.contains (i : Int))
  rw [cnt_some hs] at h1
  rw [cnt_some hl] at h2
  exact h2.2.2 fun S hS => h1.2.1 h S fun i hi => hsub _ (hS i hi)
def Rsub (sl : List Int) (R : Nat → Nat → Bool) (i k : Nat) : Bool := R (sl.getD i 0).toNat k
theorem ris_inj {sl : List Int} {m : Nat} (h : risB (-1) sl (m : Int) = true) {i j : Nat} (hi : i < sl.length) (hj : j < sl.length) (e : sl.getD i 0 = sl.getD j 0) : i = j := by
  have key : ∀ (l : List Int) (a : Int), risB a l (m : Int) = true → ∀ i j, i < j → j < l.length → l.getD i 0 < l.getD j 0 := by
    intro l
    induction l with
    | nil => intro a _ i j _ hj; simp at hj
    | cons x l ih =>
      intro a h i j hij hj
      simp only [risB, Bool.and_eq_true] at h
      cases j with
      | zero => omega
      | succ j =>
        have hj' : j < l.length := by simpa using hj
        cases i with
        | zero =>
          have h9 := ris_mem l x m h.2 l[j] (List.getElem_mem hj')
          simp [List.getD_eq_getElem?_getD, hj']; exact h9.1
        | succ i =>
          have := ih x h.2 i j (by omega) hj'
          simpa using this
  rcases Nat.lt_trichotomy i j with h1 | h1 | h1
  · have := key sl (-1) h i j h1 hj; omega
  · exact h1
  · have := key sl (-1) h j i h1 hi; omega
/-- The most of these alone are all of them. -/
theorem all_sub {R : Nat → Nat → Bool} {m n : Nat} (hn : n ≤ 8) {sl : List Int} (hs : risB (-1) sl (m : Int) = true) : rkm (Rsome sl R) m n = sl.length ↔ rkm (Rsub sl R) sl.length n = sl.length := by
  have h1 := rkm_hall (R := R) (m := m) hn (fun i => sl.contains (i : Int))
  have h2 := rkm_hall (R := Rsub sl R) (m := sl.length) hn (fun _ => true)
  have e2 : (fun i k => (fun _ : Nat => true) i && Rsub sl R i k) = Rsub sl R := rfl
  have e3 : cnt (fun _ => true) sl.length = sl.length := by
    have := cnt_not (fun _ => true) sl.length
    have h0 : cnt (fun _ : Nat => !true) sl.length = 0 := cnt_zero _ fun _ _ => rfl
    omega
  rw [e2, e3] at h2
  rw [cnt_some hs] at h1
  have hf : ∀ i, i < sl.length → (sl.getD i 0).toNat < m ∧ ((sl.getD i 0).toNat : Int) = sl.getD i 0 := fun i hi => by
    obtain ⟨p, h3, h4⟩ := ris_at hs hi
    rw [h3]; simp; exact h4
  have hmem : ∀ i, i < sl.length → sl.contains (sl.getD i 0) = true := fun i hi => by
    rw [List.contains_iff_mem, List.getD_eq_getElem?_getD, List.getElem?_eq_getElem hi]
    exact List.getElem_mem hi
  constructor
  · intro h
    refine h2.2.2 fun S _ => ?_
    have hall := h1.2.1 h (fun j => (List.range sl.length).any fun i => decide ((sl.getD i 0).toNat = j) && S i) (fun j hj => by
      obtain ⟨i, hi, h3⟩ := List.any_eq_true.1 hj
      simp at h3 hi
      have := (hf i hi).2
      rw [← h3.1]
      show sl.contains (((sl.getD i 0).toNat : Nat) : Int) = true
      rw [this]; exact hmem i hi)
    have a1 : cnt S sl.length ≤ cnt (fun j => (List.range sl.length).any fun i => decide ((sl.getD i 0).toNat = j) && S i) m := by
      refine cnt_inj (fun i => (sl.getD i 0).toNat) sl.length _ (fun i hi hS => ⟨(hf i hi).1, List.any_eq_true.2 ⟨i, by simpa using hi, by simp [hS]⟩⟩) (fun i j hi hj _ _ e => ?_)
      have b1 := (hf i hi).2
      have b2 := (hf j hj).2
      exact ris_inj hs hi hj (by rw [← b1, ← b2]; exact congrArg (fun q : Nat => (q : Int)) e)
    have a2 : cnt (nb R m (fun j => (List.range sl.length).any fun i => decide ((sl.getD i 0).toNat = j) && S i)) n ≤ cnt (nb (Rsub sl R) sl.length S) n := cnt_le n fun k _ hk => by
      obtain ⟨j, _, hj, hR⟩ := nb_iff.1 hk
      obtain ⟨i, hi, h3⟩ := List.any_eq_true.1 hj
      simp at h3 hi
      refine nb_iff.2 ⟨i, hi, h3.2, ?_⟩
      unfold Rsub
      have e : (sl.getD i 0).toNat = j := by simpa using h3.1
      rw [e]; exact hR
    omega
  · intro h
    refine h1.2.2 fun S hS => ?_
    have hall := h2.2.1 h (fun i => S (sl.getD i 0).toNat) (fun _ _ => rfl)
    have hix : ∀ j, S j = true → sl.idxOf (j : Int) < sl.length ∧ sl.getD (sl.idxOf (j : Int)) 0 = (j : Int) := fun j hj => by
      have hm : (j : Int) ∈ sl := List.contains_iff_mem.1 (hS j hj)
      have h3 := List.idxOf_lt_length_of_mem hm
      refine ⟨h3, ?_⟩
      rw [List.getD_eq_getElem?_getD, List.getElem?_eq_getElem h3]
      simp
    have a1 : cnt S m ≤ cnt (fun i => S (sl.getD i 0).toNat) sl.length := by
      refine cnt_inj (fun j => sl.idxOf (j : Int)) m _ (fun j hj hSj => ⟨(hix j hSj).1, ?_⟩) (fun i j hi hj hSi hSj e => ?_)
      · show S (sl.getD (sl.idxOf (j : Int)) 0).toNat = true
        rw [(hix j hSj).2]; exact hSj
      · have b1 := (hix i hSi).2
        have b2 := (hix j hSj).2
        have e' : sl.idxOf (i : Int) = sl.idxOf (j : Int) := e
        rw [e'] at b1
        rw [b1] at b2
        omega
    have a2 : cnt (nb (Rsub sl R) sl.length (fun i => S (sl.getD i 0).toNat)) n ≤ cnt (nb R m S) n := cnt_le n fun k _ hk => by
      obtain ⟨i, hi, hSi, hR⟩ := nb_iff.1 hk
      exact nb_iff.2 ⟨(sl.getD i 0).toNat, (hf i hi).1, hSi, hR⟩
    omega
theorem rkm_turned {R : Nat → Nat → Bool} {m n : Nat} (hn : n ≤ 8) (hm : m ≤ 8) : rkm (fun k i => R i k) n m = rkm R m n :=
  Nat.le_antisymm (rkm_turn hn hm) (rkm_turn (R := fun k i => R i k) hm hn)
theorem rkm_le2 {R : Nat → Nat → Bool} {m n : Nat} (hn : n ≤ 8) (hm : m ≤ 8) : rkm R m n ≤ n := by
  rw [← rkm_turned hn hm]; exact rkm_le _ _ _
theorem mat_cnt {R : Nat → Nat → Bool} {m n : Nat} (hn : n ≤ 8) : cnt (mat (mostR R m n)) (mostR R m n).length = rkm R m n := by
  rw [show (mostR R m n).length = m from (mostN_fit hn (Nat.le_refl m)).len]; rfl
/-- A list gone through, those left out that are not wanted. -/
def filtI (l : List Nat) (p : Nat → Bool) (j : Nat) : List Int := ((l.take j).filter p).map (fun k : Nat => (k : Int))
theorem filtI_zero (l : List Nat) (p : Nat → Bool) : filtI l p 0 = [] := by simp [filtI]
theorem filtI_step {l : List Nat} {p : Nat → Bool} {j : Nat} (h : j < l.length) : filtI l p (j + 1) = filtI l p j ++ (if p (l.getD j 0) = true then [((l.getD j 0 : Nat) : Int)] else []) := by
  unfold filtI
  rw [List.take_succ_eq_append_getElem h, List.filter_append, List.map_append]
  congr 1
  have e : l.getD j 0 = l[j] := by simp [List.getD_eq_getElem?_getD, h]
  rw [e]
  by_cases hp : p l[j] = true <;> simp [hp]
theorem filtI_len (l : List Nat) (p : Nat → Bool) (j : Nat) : (filtI l p j).length ≤ l.length := by
  unfold filtI
  rw [List.length_map]
  exact Nat.le_trans (List.length_filter_le _ _) (by rw [List.length_take]; omega)
theorem filtI_all {n : Nat} {r p : Nat → Bool} {j : Nat} (h : ¬ j < (rowN n r).length) : filtI (rowN n r) p j = rowL n (fun k => r k && p k) := by
  unfold filtI rowL
  rw [List.take_of_length_le (by omega)]
  unfold rowN
  rw [List.filter_filter]
  congr 1
  apply List.filter_congr
  intro k _
  exact Bool.and_comm _ _
theorem rows_slice {w : World} {v' : Value} {vs : List Value} {g : List (List Int)} {lo hi : Nat} (hs : Sl w v' ((vs.drop lo).take (hi - lo))) (hl : vs.length = g.length) (hr : ∀ (i : Nat) (u : Value) (l : List Int), vs[i]? = some u → g[i]? = some l → Ints w u l) : Rows w v' ((g.drop lo).take (hi - lo)) :=
  ⟨_, hs, by simp [hl], fun j q l hq hl' => by
    rw [List.getElem?_take] at hq hl'
    split at hq
    · rename_i hlt
      rw [if_pos hlt] at hl'
      rw [List.getElem?_drop] at hq hl'
      exact hr _ q l hq hl'
    · cases hq⟩
theorem rows_mk {w : World} {v : Value} {vs : List Value} {g : List (List Int)} (hs : Sl w v vs) (hl : vs.length = g.length) (hr : ∀ (i : Nat) (u : Value) (l : List Int), vs[i]? = some u → g[i]? = some l → Ints w u l) : Rows w v g := ⟨vs, hs, hl, hr⟩
/-- Two things that a call builds by append, side by side. -/
structure D2 (w0 W : World) (E1 : TypeId) (v1 : Value) (l1 : List Value) (E2 : TypeId) (v2 : Value) (l2 : List Value) : Prop where
  r1 : Rw W E1 v1 l1
  r2 : Rw W E2 v2 l2
  o1 : ∀ b, v1.ownBlock = some b → w0.heap.size ≤ b
  o2 : ∀ b, v2.ownBlock = some b → w0.heap.size ≤ b
  ne : ∀ b, v1.ownBlock = some b → v2.ownBlock ≠ some b
  ex : Ex w0 W
theorem D2.nil {w0 W : World} {E1 E2 : TypeId} (h : Ex w0 W) : D2 w0 W E1 (.slice none 0 0) [] E2 (.slice none 0 0) [] := ⟨Rw.nil _ _, Rw.nil _ _, fun b h => (by cases h), fun b h => (by cases h), fun b h => (by cases h), h⟩
theorem D2.exd {w0 W W' : World} {E1 E2 : TypeId} {v1 v2 : Value} {l1 l2 : List Value} (h : D2 w0 W E1 v1 l1 E2 v2 l2) (hx : Ex W W') : D2 w0 W' E1 v1 l1 E2 v2 l2 := ⟨h.r1.ex hx, h.r2.ex hx, h.o1, h.o2, h.ne, h.ex.trans hx⟩
theorem D2.swap {w0 W : World} {E1 E2 : TypeId} {v1 v2 : Value} {l1 l2 : List Value} (h : D2 w0 W E1 v1 l1 E2 v2 l2) : D2 w0 W E2 v2 l2 E1 v1 l1 := ⟨h.r2, h.r1, h.o2, h.o1, fun b e e2 => h.ne b e2 e, h.ex⟩
theorem D2.app1 {w0 W W' : World} {E1 E2 : TypeId} {v1 v2 v1' : Value} {l1 l2 l1' : List Value} (h : D2 w0 W E1 v1 l1 E2 v2 l2) (hR : Rw W' E1 v1' l1') (hg : W.grownBy W' v1.ownBlock) (hf : v1'.ownBlock = v1.ownBlock ∨ ∀ b, v1'.ownBlock = some b → W.heap.size ≤ b) : D2 w0 W' E1 v1' l1' E2 v2 l2 := by
  refine ⟨hR, h.r2.kept hg ?_, fun b hb => ?_, h.o2, fun b hb e => ?_, h.ex.storeo hg h.o1⟩
  · cases hb : v2.ownBlock with
    | none => exact .inl rfl
    | some b => exact .inr fun e => h.ne b e.symm hb
  · rcases hf with he | hf
    · exact h.o1 b (he ▸ hb)
    · exact Nat.le_trans h.ex.size (hf b hb)
  · rcases hf with he | hf
    · exact h.ne b (he ▸ hb) e
    · have := hf b hb
      have := h.r2.lt b e
      omega
theorem D2.app2 {w0 W W' : World} {E1 E2 : TypeId} {v1 v2 v2' : Value} {l1 l2 l2' : List Value} (h : D2 w0 W E1 v1 l1 E2 v2 l2) (hR : Rw W' E2 v2' l2') (hg : W.grownBy W' v2.ownBlock) (hf : v2'.ownBlock = v2.ownBlock ∨ ∀ b, v2'.ownBlock = some b → W.heap.size ≤ b) : D2 w0 W' E1 v1 l1 E2 v2' l2' := (h.swap.app1 hR hg hf).swap
theorem LI.mk' {w0 w : World} {E : TypeId} {v : Value} {l : List Int} (h : Rw w E v (l.map (Value.int .i64))) (ho : ∀ b, v.ownBlock = some b → w0.heap.size ≤ b) : LI w0 w E v l := ⟨h, ho⟩
theorem gb_up {a b c : World} {o o' : Option Nat} (h : a.grownBy b o) (k : b.grownBy c o') (ho : ∀ q, o' = some q → a.heap.size ≤ q) : a.grownBy c o :=
  ⟨k.os.trans h.os, k.tape.trans h.tape, k.output.trans h.output, Nat.le_trans h.size k.size, fun q hq hne => (k.block q (Nat.lt_of_lt_of_le hq h.size) (fun e => by have := ho q e.symm; omega)).trans (h.block q hq hne)⟩
/-- A copy of rows, of which one is another now. -/
def twinV (rb rc : Nat → Nat) (g : List (List Int)) (p : Nat) (v : Value) : List Value := (List.range g.length).map fun i => if i = p then v else sv (rb i) (g.getD i []).length (rc i)
theorem twinV_len (rb rc : Nat → Nat) (g : List (List Int)) (p : Nat) (v : Value) : (twinV rb rc g p v).length = g.length := by simp [twinV]
theorem twinV_set (rb rc : Nat → Nat) (g : List (List Int)) {p : Nat} (v v' : Value) (sp : List Value) (hp : p < g.length) : (twinV rb rc g p v ++ sp).set p v' = twinV rb rc g p v' ++ sp := by
  rw [List.set_append_left _ _ (by rw [twinV_len]; exact hp)]
  congr 1
  apply List.ext_getElem
  · simp [twinV]
  · intro i h1 h2
    rw [List.getElem_set]
    by_cases e : p = i
    · subst e; simp [twinV]
    · have e2 : ¬ i = p := fun h => e h.symm
      simp [twinV, e, e2]
theorem twinV_get (rb rc : Nat → Nat) (g : List (List Int)) {p : Nat} (v : Value) (sp : List Value) (hp : p < g.length) : (twinV rb rc g p v ++ sp)[p]? = some v := by
  rw [List.getElem?_append_left (by rw [twinV_len]; exact hp)]
  simp [twinV, hp]
theorem Mat.parts {w : World} {T E : TypeId} {b c : Nat} {rb rc : Nat → Nat} {g : List (List Int)} (h : Mat w T E b c rb rc g) {p : Nat} (hp : p < g.length) :
    (∃ sp, At w b T (twinV rb rc g p (sv (rb p) (g.getD p []).length (rc p)) ++ sp)) ∧ g.length ≤ c ∧ (∀ i, i < g.length → OwnI w E (rb i) (rc i) (g.getD i []) ∧ rb i ≠ b) := by
  obtain ⟨⟨sp, h1⟩, h2, h3, h4, h5⟩ := h
  refine ⟨⟨sp, ?_⟩, h2, h4⟩
  have e : twinV rb rc g p (sv (rb p) (g.getD p []).length (rc p)) = (List.range g.length).map (fun i => sv (rb i) (g.getD i []).length (rc i)) := by
    unfold twinV
    apply List.map_congr_left
    intro i _
    by_cases e : i = p
    · subst e; rw [if_pos rfl]
    · rw [if_neg e]
  rw [e]; exact h1
theorem twin_rows {w0 w : World} {T E : TypeId} {b c p : Nat} {rb rc : Nat → Nat} {g : List (List Int)} {v : Value} {l : List Int} {sp : List Value} (hp : p < g.length) (hm : g.length ≤ 10000) (hA : At w b T (twinV rb rc g p v ++ sp)) (hc : g.length ≤ c) (hO : ∀ i, i < g.length → OwnI w0 E (rb i) (rc i) (g.getD i []) ∧ rb i ≠ b) (hg : w0.grownBy w (some b)) (hv : Ints w v l) :
    Rows w (sv b g.length c) (g.set p l) := by
  have hs := hA.sl (n := g.length) (c := c) (by rw [List.length_append, twinV_len]; omega) (by omega) hc
  rw [List.take_left' (twinV_len rb rc g p v)] at hs
  refine ⟨_, hs, by rw [twinV_len, List.length_set], fun i u l' hu hl => ?_⟩
  have hi := (List.getElem?_eq_some_iff.1 hl).1
  rw [List.length_set] at hi
  rw [List.getElem?_set] at hl
  simp only [twinV, List.getElem?_map, List.getElem?_range hi, Option.map_some, Option.some.injEq] at hu
  by_cases e : p = i
  · subst e
    rw [if_pos rfl, if_pos hi] at hl
    rw [if_pos rfl] at hu
    cases hl
    rw [← hu]; exact hv
  · rw [if_neg e] at hl
    rw [if_neg (fun h => e h.symm)] at hu
    have e2 : g.getD i [] = l' := by simp [List.getD_eq_getElem?_getD, hl]
    rw [← hu, ← e2]
    exact ((hO i hi).1.grown hg (fun h => (hO i hi).2 (Option.some.inj h).symm)).ints
section
variable {r : Option Nat} {P : Program} {Q : Exit → Act → World → Prop} {a : Act} {w : World} {o : Operand} {x y z : Code}
theorem c_sc (h : CW r P (.cond o x y) (Exit.then (CW r P z Q) Q) a w) : CW r P (.seq (.cond o x y) z) Q a w := c_seq h
theorem c_ss (h : CW r P (.seq x y) (Exit.then (CW r P z Q) Q) a w) : CW r P (.seq (.seq x y) z) Q a w := c_seq h
end
theorem ris_weak {m : Int} : ∀ (l : List Int) (a b : Int), a ≤ b → risB b l m = true → risB a l m = true
  | [], _, _, _, _ => rfl
  | x :: l, a, b, hab, h => by
    simp only [risB, Bool.and_eq_true, Bool.not_eq_true', Bool.or_eq_false_iff, decide_eq_false_iff_not] at h ⊢
    exact ⟨⟨by omega, h.1.2⟩, h.2⟩
theorem ris_sub {m : Int} : ∀ {l' l : List Int}, l'.Sublist l → ∀ a, risB a l m = true → risB a l' m = true := by
  intro l' l h
  induction h with
  | slnil => intro a _; rfl
  | cons x _ ih =>
    intro a h
    simp only [risB, Bool.and_eq_true, Bool.not_eq_true', Bool.or_eq_false_iff, decide_eq_false_iff_not] at h
    exact ris_weak _ a x (by omega) (ih x h.2)
  | cons_cons x _ ih =>
    intro a h
    simp only [risB, Bool.and_eq_true] at h ⊢
    exact ⟨h.1, ih x h.2⟩
/-- Those of a list whose bits are set. -/
def lessR (sl : List Int) (x : Nat) : Nat → List Int
  | 0 => []
  | i + 1 => lessR sl x i ++ (if x.testBit i = true then [sl.getD i 0] else [])
theorem lessR_sub (sl : List Int) (x : Nat) : ∀ i, i ≤ sl.length → (lessR sl x i).Sublist (sl.take i)
  | 0, _ => by simp [lessR]
  | i + 1, h => by
    have ih := lessR_sub sl x i (by omega)
    unfold lessR
    rw [List.take_succ_eq_append_getElem (by omega)]
    refine List.Sublist.append ih ?_
    have e : sl.getD i 0 = sl[i] := by simp [List.getD_eq_getElem?_getD, show i < sl.length by omega]
    rw [e]
    split
    · exact List.Sublist.refl _
    · exact List.nil_sublist _
theorem lessR_all (sl : List Int) (x : Nat) : (lessR sl x sl.length).Sublist sl := by
  have := lessR_sub sl x sl.length (Nat.le_refl _)
  rwa [List.take_of_length_le (Nat.le_refl _)] at this
theorem sub_has {l' l : List Int} (h : l'.Sublist l) (q : Int) (hq : l'.contains q = true) : l.contains q = true := by
  rw [List.contains_iff_mem] at hq ⊢
  exact h.subset hq
section
open Go.RowKit
variable {r : Option Nat} {P : Program} {J : World → Prop} {z : Nat} {Q : Exit → Act → World → Prop} {N : Nat} {σ : Nat → Value} {ds : List Deferred} {w : World}
variable {gd : Option (Nat × Bool)} {ops : Array Oper} {i d : Nat} {π : List (Nat × Bool)} {ty : TypeId} {pos : String} {after : Array Edge} {T E : TypeId} {x : Operand}
theorem d_sliceR {w0 : World} {v : Value} {g : List (List Int)} {l h : Option Operand} {lo hi : Nat} (hop : ops[i]? = some ⟨some d, .slice T x l h none, ty, pos, after, gd⟩) (hT : SlT P T E) (hE : Ty1 P E) (hR : Rows w0 v g) (hx : ev N σ x = v) (h1 : lo ≤ hi) (h2 : hi ≤ g.length)
    (hl : (∃ k, l.map (ev N σ) = some (.int k (lo : Int))) ∨ (l = none ∧ lo = 0)) (hh : (∃ k, h.map (ev N σ) = some (.int k (hi : Int))) ∨ (h = none ∧ hi = g.length))
    (hK : ∀ v', Rows w0 v' ((g.drop lo).take (hi - lo)) → WJ r P ops J z Q π (mk N (upd σ d v') ds) w) (hgd : GOK ops (ev N σ) gd := by first | exact trivial | exact ⟨_, rfl, rfl⟩) : WJ r P ops J z Q ((i, true) :: π) (mk N σ ds) w := by
  obtain ⟨vs, hs, hvl, hr⟩ := hR
  exact d_slice hop hT hE hs hx h1 (by omega) hl (by rw [hvl]; exact hh) (fun v' hv' => hK v' (rows_slice hv' hvl hr)) hgd
end
section
open Go.RowKit
variable {r : Option Nat} {P : Program} {J : World → Prop} {z : Nat} {Q : Exit → Act → World → Prop} {N : Nat} {σ : Nat → Value} {ds : List Deferred} {w : World}
variable {gd : Option (Nat × Bool)} {ops : Array Oper} {i d : Nat} {π : List (Nat × Bool)} {ty : TypeId} {pos : String} {after : Array Edge} {E : TypeId} {x : Operand}
theorem d_eqlb {t t' : TypeId} {x y : Operand} {p q : Bool} (hop : ops[i]? = some ⟨some d, .binOp .eql t x y t', ty, pos, after, gd⟩) (hT : P.underlying t = some .bool) (hx : ev N σ x = .bool p) (hy : ev N σ y = .bool q) (h : WJ r P ops J z Q π (mk N (upd σ d (.bool (p == q))) ds) w) (hgd : GOK ops (ev N σ) gd := by first | exact trivial | exact ⟨_, rfl, rfl⟩) : WJ r P ops J z Q ((i, true) :: π) (mk N σ ds) w :=
  d_bin hop hx hy (by simp [go_sem]) (fun w' => by
    show ((Op.equal t (.bool p) (.bool q)).bind fun b => (Sem.pure (Value.bool b) : Sem Value)).run P w' = _
    simp [Sem.run_bind', run_equal_bool P w' t p q hT]) h hgd
/-- A load of a cell that lay in an older world, whatever else is known all through the region. -/
theorem d_ldE {w0 : World} {ad : Addr} {u : Value} (hi : ops[i]? = some ⟨some d, .load E x, ty, pos, after, gd⟩) (hE : Ty1 P E) (hx : ev N σ x = .pointer (some ad)) (hJ : ∀ w', J w' → Ex w0 w') (hc : w0.cell? ad = some u)
    (h : WJ r P ops J z Q π (mk N (upd σ d u) ds) w) (hgd : GOK ops (ev N σ) gd := by first | exact trivial | exact ⟨_, rfl, rfl⟩) : WJ r P ops J z Q ((i, true) :: π) (mk N σ ds) w :=
  d_val hi (fun w' hw => by simp [execOp, hx, Instr.loadAt, Instr.sureAddr, run_loadVar1 hE (Ex.cell (hJ w' hw) hc)]) h hgd
theorem d_ldAE {w0 : World} {B : TypeId} {b n : Nat} {cs : List Value} {u : Value} (hi : ops[i]? = some ⟨some d, .load E x, ty, pos, after, gd⟩) (hE : Ty1 P E) (hx : ev N σ x = .pointer (some ⟨b, n, none⟩)) (hJ : ∀ w', J w' → Ex w0 w') (hA : At w0 b B cs) (hc : cs[n]? = some u)
    (h : WJ r P ops J z Q π (mk N (upd σ d u) ds) w) (hgd : GOK ops (ev N σ) gd := by first | exact trivial | exact ⟨_, rfl, rfl⟩) : WJ r P ops J z Q ((i, true) :: π) (mk N σ ds) w := d_ldE hi hE hx hJ (by rw [hA.cell]; exact hc) h hgd
end
theorem gL_take (R : Nat → Nat → Bool) {m n i : Nat} (h : i ≤ m) : ((gL R m n).drop 0).take (i - 0) = gL R i n := by
  unfold gL
  rw [List.drop_zero, Nat.sub_zero, ← List.map_take, List.take_range, Nat.min_eq_left h]
theorem gL_drop (R : Nat → Nat → Bool) {m n i : Nat} (h : i ≤ m) : ((gL R m n).drop i).take ((gL R m n).length - i) = gL (fun j k => R (i + j) k) (m - i) n := by
  rw [gL_len, List.take_of_length_le (by rw [List.length_drop, gL_len]; omega)]
  apply List.ext_getElem
  · rw [List.length_drop, gL_len, gL_len]
  · intro j h1 h2; simp [gL]
end Go.Proofs.Ytkhnohnkcdcajaa.Sal
