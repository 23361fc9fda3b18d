/- Plain: graphs by who may have what; graphs.edges as an iterator. -/
import Derived.Test.YtkhnohnkcdcajaaDoorG1
import Derived.Test.YtkhnohnkcdcajaaDoorTW
import Derived.Test.YtkhnohnkcdcajaaDoorCore11
set_option maxRecDepth 100000
namespace Go.Proofs.YtkhnohnkcdcajaaDoor.Sal
open Go.RowKit
attribute [local irreducible] Go.Code.wpIn Go.wpListIn Ct Ints Rows Sl At Rw WJ
set_option linter.all false
/-! ### Graphs -/
def rowL (n : Nat) (p : Nat → Bool) : List Int := (rowN n p).map (fun k : Nat => (k : Int))
def gL (R : Nat → Nat → Bool) (m n : Nat) : List (List Int) := (List.range m).map fun i => rowL n (R i)
theorem gL_len (R : Nat → Nat → Bool) (m n : Nat) : (gL R m n).length = m := by simp [gL]
theorem gL_row {R : Nat → Nat → Bool} {m n i : Nat} (hi : i < m) : (gL R m n).getD i [] = rowL n (R i) := by simp [gL, hi]
theorem rowL_len (n : Nat) (p : Nat → Bool) : (rowL n p).length = (rowN n p).length := by simp [rowL]
theorem rowN_le (n : Nat) (p : Nat → Bool) : (rowN n p).length ≤ n := by
  have := List.length_filter_le p (List.range n)
  simpa [rowN] using this
theorem rowL_get (n : Nat) (p : Nat → Bool) {j : Nat} (h : j < (rowN n p).length) : (rowL n p).getD j 0 = (((rowN n p).getD j 0 : Nat) : Int) := by simp [rowL, h]
theorem rowN_get {n : Nat} {p : Nat → Bool} {j : Nat} (h : j < (rowN n p).length) : (rowN n p).getD j 0 < n ∧ p ((rowN n p).getD j 0) = true := by
  have : (rowN n p).getD j 0 ∈ rowN n p := by rw [List.getD_eq_getElem?_getD, List.getElem?_eq_getElem h]; exact List.getElem_mem h
  exact mem_rowN.1 this
theorem rowL_has (n : Nat) (p : Nat → Bool) (q : Int) : (rowL n p).contains q = true ↔ ∃ k : Nat, k < n ∧ p k = true ∧ q = (k : Int) := by
  simp only [rowL, List.contains_iff_mem, List.mem_map, mem_rowN]
  constructor
  · rintro ⟨k, ⟨h1, h2⟩, rfl⟩; exact ⟨k, h1, h2, rfl⟩
  · rintro ⟨k, h1, h2, rfl⟩; exact ⟨k, ⟨h1, h2⟩, rfl⟩
/-- A rising list is the one of its members. -/
theorem ris_mem : ∀ (l : List Int) (a m : Int), risB a l m = true → ∀ x ∈ l, a < x ∧ x < m
  | x :: l, a, m, h, y, hy => by
    simp only [risB, Bool.and_eq_true, Bool.not_eq_true', Bool.or_eq_false_iff, decide_eq_false_iff_not] at h
    rcases List.mem_cons.1 hy with rfl | hy
    · omega
    · have := ris_mem l x m h.2 y hy; omega
theorem ris_row (n : Nat) : ∀ (l : List Int) (c d : Nat), c + d = n → risB ((c : Int) - 1) l (n : Int) = true → l = (((List.range d).map (c + ·)).filter (fun k : Nat => l.contains (k : Int))).map (fun k : Nat => (k : Int))
  | l, c, 0, hcd, h => by
    cases l with
    | nil => rfl
    | cons x l =>
      have := ris_mem _ _ _ h x (by simp)
      omega
  | l, c, d + 1, hcd, h => by
    have e : (List.range (d + 1)).map (c + ·) = c :: (List.range d).map (c + 1 + ·) := by
      rw [List.range_succ_eq_map, List.map_cons, List.map_map]
      congr 1
      apply List.map_congr_left
      intro k _
      simp; omega
    rw [e]
    by_cases hc : l.contains (c : Int) = true
    · cases l with
      | nil => cases hc
      | cons x l =>
        have hx := ris_mem _ _ _ h x (by simp)
        have h' := h
        simp only [risB, Bool.and_eq_true, Bool.not_eq_true', Bool.or_eq_false_iff, decide_eq_false_iff_not] at h'
        have hxc : x = (c : Int) := by
          simp only [List.contains_iff_mem, List.mem_cons] at hc
          rcases hc with hc | hc
          · exact hc.symm
          · have := ris_mem _ _ _ h'.2 _ hc; omega
        subst hxc
        have hr : risB (((c + 1 : Nat) : Int) - 1) l (n : Int) = true := by
          have e2 : ((c + 1 : Nat) : Int) - 1 = (c : Int) := by omega
          rw [e2]; exact h'.2
        have ih := ris_row n l (c + 1) d (by omega) hr
        rw [List.filter_cons_of_pos (by exact hc), List.map_cons]
        congr 1
        rw [ih]
        congr 1
        rw [← ih]
        apply List.filter_congr
        intro k hk
        obtain ⟨j, _, rfl⟩ := List.mem_map.1 hk
        have : ¬ ((c + 1 + j : Nat) : Int) = (c : Int) := by omega
        simp only [List.contains_cons]
        have h9 : (((c + 1 + j : Nat) : Int) == (c : Int)) = false := by simpa using this
        rw [h9, Bool.false_or]
    · have hr : risB (((c + 1 : Nat) : Int) - 1) l (n : Int) = true := by
        cases l with
        | nil => rfl
        | cons x l =>
          have hx := ris_mem _ _ _ h x (by simp)
          have hne : x ≠ (c : Int) := fun e => hc (by simp [e])
          simp only [risB, Bool.and_eq_true, Bool.not_eq_true', Bool.or_eq_false_iff, decide_eq_false_iff_not] at h ⊢
          exact ⟨⟨by omega, h.1.2⟩, h.2⟩
      have ih := ris_row n l (c + 1) d (by omega) hr
      rw [List.filter_cons_of_neg (by exact hc)]
      exact ih
theorem ris_rowL {l : List Int} {n : Nat} (h : risB (-1) l (n : Int) = true) : l = rowL n (fun k => l.contains (k : Int)) := by
  have := ris_row n l 0 n (by omega) (by simpa using h)
  unfold rowL rowN
  have e : (List.range n).map (0 + ·) = List.range n := by simp
  rw [e] at this
  exact this
def mayR (g : List (List Int)) (i k : Nat) : Bool := (g.getD i []).contains (k : Int)
/-- A graph that may be is the graph of who may have what. -/
theorem chk_form {g : List (List Int)} {n : Int} (h : chkG g n = true) : ∃ nn : Nat, n = (nn : Int) ∧ nn ≤ 8 ∧ g.length ≤ 8 ∧ g = gL (mayR g) g.length nn := by
  unfold chkG at h
  simp only [Bool.and_eq_true, decide_eq_true_eq] at h
  obtain ⟨⟨⟨h0, h8⟩, hl⟩, hr⟩ := h
  obtain ⟨nn, rfl⟩ : ∃ nn : Nat, n = (nn : Int) := ⟨n.toNat, by omega⟩
  refine ⟨nn, rfl, by omega, by omega, ?_⟩
  simp only [Bool.not_eq_true', List.any_eq_false, Bool.not_eq_true] at hr
  apply List.ext_getElem
  · rw [gL_len]
  · intro i h1 h2
    have hri : risB (-1) g[i] (nn : Int) = true := by
      have := hr g[i] (List.getElem_mem h1)
      simpa using this
    have e1 : g.getD i [] = g[i] := by simp [h1]
    have : (gL (mayR g) g.length nn)[i] = rowL nn (mayR g i) := by simp [gL]
    rw [this]
    unfold mayR
    rw [e1]
    exact ris_rowL hri
theorem chk_ok {R : Nat → Nat → Bool} {m n : Nat} (hm : m ≤ 8) (hn : n ≤ 8) : chkG (gL R m n) (n : Int) = true := by
  have key : ∀ (d c : Nat) (a : Int), a < (c : Int) → c + d = n → ∀ p : Nat → Bool, risB a (((List.range d).map (c + ·)).filter p |>.map (fun k : Nat => (k : Int))) (n : Int) = true := by
    intro d
    induction d with
    | zero => intro c a _ _ p; rfl
    | succ d ih =>
      intro c a ha hcd p
      have e : (List.range (d + 1)).map (c + ·) = c :: (List.range d).map (c + 1 + ·) := by
        rw [List.range_succ_eq_map, List.map_cons, List.map_map]
        congr 1
        apply List.map_congr_left
        intro k _
        simp; omega
      rw [e]
      by_cases hp : p c = true
      · rw [List.filter_cons_of_pos hp, List.map_cons]
        simp only [risB, Bool.and_eq_true, Bool.not_eq_true', Bool.or_eq_false_iff, decide_eq_false_iff_not]
        exact ⟨⟨by omega, by omega⟩, ih (c + 1) (c : Int) (by omega) (by omega) p⟩
      · rw [List.filter_cons_of_neg hp]
        exact ih (c + 1) a (by omega) (by omega) p
  unfold chkG
  simp only [Bool.and_eq_true, decide_eq_true_eq, gL_len]
  refine ⟨⟨⟨by omega, by omega⟩, by omega⟩, ?_⟩
  simp only [Bool.not_eq_true', List.any_eq_false, Bool.not_eq_true]
  intro l hl
  obtain ⟨i, _, rfl⟩ := List.mem_map.1 hl
  have := key n 0 (-1) (by omega) (by omega) (R i)
  have e : (List.range n).map (0 + ·) = List.range n := by simp
  rw [e] at this
  unfold rowL rowN
  rw [this]; simp
end Go.Proofs.YtkhnohnkcdcajaaDoor.Sal
