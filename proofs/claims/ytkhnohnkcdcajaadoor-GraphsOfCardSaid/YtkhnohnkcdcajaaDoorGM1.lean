/- Plain: the search of a way to one more: what it finds, and what it shows where it finds none. -/
import Derived.Test.YtkhnohnkcdcajaaDoorM1
set_option maxRecDepth 100000
namespace Go.Proofs.YtkhnohnkcdcajaaDoor.Sal
set_option linter.all false

/-! ### The search -/
def fset {α : Type} (f : Nat → α) (k : Nat) (x : α) : Nat → α := fun j => if j = k then x else f j
theorem fset_same {α : Type} (f : Nat → α) (k : Nat) (x : α) : fset f k x k = x := by simp [fset]
theorem fset_other {α : Type} {f : Nat → α} {k j : Nat} {x : α} (h : j ≠ k) : fset f k x j = f j := by simp [fset, h]
/-- The items that a bidder may have, rising. -/
def rowN (n : Nat) (p : Nat → Bool) : List Nat := (List.range n).filter p
theorem mem_rowN {n : Nat} {p : Nat → Bool} {k : Nat} : k ∈ rowN n p ↔ k < n ∧ p k = true := by simp [rowN]
/-- One more than who has an item; 0: nobody. -/
def holdN (has : List Int) : Nat → Nat → Nat
  | 0, _ => 0
  | j + 1, k => if has.getD j (-1) = (k : Int) then j + 1 else holdN has j k
/-! ### Matchings -/
structure FitR (R : Nat → Nat → Bool) (m n : Nat) (has : List Int) : Prop where
  len : has.length = m
  ok : ∀ i, i < m → has.getD i (-1) = -1 ∨ ∃ k : Nat, k < n ∧ has.getD i (-1) = (k : Int) ∧ R i k = true
  inj : ∀ i j, i < m → j < m → has.getD i (-1) = has.getD j (-1) → has.getD i (-1) ≠ -1 → i = j
theorem holdN_pos {has : List Int} {k : Nat} : ∀ {j : Nat}, 0 < holdN has j k → holdN has j k - 1 < j ∧ has.getD (holdN has j k - 1) (-1) = (k : Int)
  | j + 1, h => by
    unfold holdN at h ⊢
    by_cases he : has.getD j (-1) = (k : Int)
    · rw [if_pos he] at h ⊢
      exact ⟨by omega, by simpa using he⟩
    · rw [if_neg he] at h ⊢
      have := holdN_pos h
      exact ⟨by omega, this.2⟩
/-- What holds all through the search. -/
structure BI (R : Nat → Nat → Bool) (m n : Nat) (has : List Int) (a : Nat) (w : Nat → Nat) (ws : List Nat) : Prop where
  head : ws[0]? = some a
  bnd : ∀ b ∈ ws, b < m
  nodup : ∀ (i j b : Nat), ws[i]? = some b → ws[j]? = some b → i = j
  came : ∀ (j b : Nat), ws[j]? = some b → 0 < j → ∃ k j' : Nat, k < n ∧ has.getD b (-1) = (k : Int) ∧ 0 < w k ∧ j' < j ∧ ws[j']? = some (w k - 1)
  byok : ∀ k, 0 < w k → k < n ∧ (w k - 1) ∈ ws ∧ R (w k - 1) k = true
  full : ws.length ≤ 1 + cnt (fun k => decide (0 < w k)) n
  held : ∀ k, 0 < w k → 0 < holdN has has.length k → holdN has has.length k - 1 ∈ ws
theorem BI.len {R : Nat → Nat → Bool} {m n : Nat} {has : List Int} {a : Nat} {w : Nat → Nat} {ws : List Nat} (h : BI R m n has a w ws) : ws.length ≤ 1 + n :=
  Nat.le_trans h.full (by have := cnt_bound (fun k => decide (0 < w k)) n; omega)
theorem cnt_fset {w : Nat → Nat} {n k x : Nat} (hk : k < n) (h0 : ¬ 0 < w k) (hx : 0 < x) : cnt (fun j => decide (0 < w j)) n + 1 = cnt (fun j => decide (0 < fset w k x j)) n := by
  have h1 : (fun j => decide (0 < fset w k x j)) k = true := by simp [fset_same, hx]
  have h2 := cnt_drop (s := fun j => decide (0 < fset w k x j)) hk h1
  rw [← h2]
  congr 1
  apply cnt_congr
  intro j hj
  by_cases e : j = k
  · subst e; simp [fset_same, h0]
  · simp [fset_other e, e]
theorem get_app {ws : List Nat} {x j b : Nat} (h : (ws ++ [x])[j]? = some b) : (j < ws.length ∧ ws[j]? = some b) ∨ (j = ws.length ∧ b = x) := by
  by_cases hj : j < ws.length
  · exact .inl ⟨hj, by rwa [List.getElem?_append_left hj] at h⟩
  · have h1 := (List.getElem?_eq_some_iff.1 h).1
    simp at h1
    have : j = ws.length := by omega
    subst this
    simp at h
    exact .inr ⟨rfl, h.symm⟩
theorem get_app_old {ws : List Nat} {x j b : Nat} (h : ws[j]? = some b) : (ws ++ [x])[j]? = some b := by
  have h1 := (List.getElem?_eq_some_iff.1 h).1
  rw [List.getElem?_append_left h1]; exact h
theorem idx_of {ws : List Nat} {b : Nat} (h : b ∈ ws) : ∃ j : Nat, ws[j]? = some b := List.mem_iff_getElem?.1 h

section search
variable {R : Nat → Nat → Bool} {m n : Nat} {has : List Int} {a : Nat}
/-- An item is come to that somebody has. -/
theorem BI.take {w : Nat → Nat} {ws : List Nat} {b k jb : Nat} (hF : FitR R m n has) (h : BI R m n has a w ws) (ha : has.getD a (-1) = -1) (hb : ws[jb]? = some b) (hk : k < n) (hR : R b k = true) (h0 : ¬ 0 < w k) (hh : 0 < holdN has has.length k) :
    BI R m n has a (fset w k (b + 1)) (ws ++ [holdN has has.length k - 1]) := by
  have hp := holdN_pos hh
  rw [hF.len] at hp
  obtain ⟨hc, hcv⟩ := hp
  rw [← hF.len] at hc hcv
  obtain ⟨c, hce⟩ : ∃ c, c = holdN has has.length k - 1 := ⟨_, rfl⟩
  rw [hF.len] at hce
  have hF' := hF.len
  rw [hF.len, ← hce] at hc hcv
  rw [hF.len, ← hce]
  have hnew : c ∉ ws := fun hm => by
    obtain ⟨j, hj⟩ := idx_of hm
    by_cases hj0 : j = 0
    · subst hj0
      rw [h.head] at hj
      cases hj
      rw [ha] at hcv; omega
    · obtain ⟨k', j', hk', hv, hw, _, _⟩ := h.came j c hj (by omega)
      rw [hcv] at hv
      have : k = k' := by omega
      subst this
      exact h0 hw
  refine ⟨get_app_old h.head, ?_, ?_, ?_, ?_, ?_, ?_⟩
  · intro x hx
    rcases List.mem_append.1 hx with hx | hx
    · exact h.bnd x hx
    · simp at hx; subst hx; exact hc
  · intro i j x hi hj
    rcases get_app hi with ⟨h1, h2⟩ | ⟨h1, h2⟩ <;> rcases get_app hj with ⟨h3, h4⟩ | ⟨h3, h4⟩
    · exact h.nodup i j x h2 h4
    · subst h4; exact absurd (List.mem_iff_getElem?.2 ⟨i, h2⟩) hnew
    · subst h2; exact absurd (List.mem_iff_getElem?.2 ⟨j, h4⟩) hnew
    · omega
  · intro j x hj hj0
    rcases get_app hj with ⟨h1, h2⟩ | ⟨h1, h2⟩
    · obtain ⟨k', j', hk', hv, hw, hlt, hj'⟩ := h.came j x h2 hj0
      have hne : k' ≠ k := fun e => by subst e; exact h0 hw
      exact ⟨k', j', hk', hv, by rw [fset_other hne]; exact hw, hlt, by rw [fset_other hne]; exact get_app_old hj'⟩
    · subst h2
      refine ⟨k, jb, hk, hcv, by rw [fset_same]; omega, ?_, by rw [fset_same]; simpa using get_app_old hb⟩
      have := (List.getElem?_eq_some_iff.1 hb).1
      omega
  · intro k' hw
    by_cases e : k' = k
    · subst e
      rw [fset_same]
      exact ⟨hk, List.mem_append_left _ (by simpa using List.mem_iff_getElem?.2 ⟨jb, hb⟩), by simpa using hR⟩
    · rw [fset_other e] at hw ⊢
      obtain ⟨h1, h2, h3⟩ := h.byok k' hw
      exact ⟨h1, List.mem_append_left _ h2, h3⟩
  · have := cnt_fset (x := b + 1) hk h0 (by omega)
    rw [← this]
    have := h.full
    simp; omega
  · intro k' hw hh'
    by_cases e : k' = k
    · subst e
      rw [hF.len, ← hce]
      simp
    · rw [fset_other e] at hw
      exact List.mem_append_left _ (h.held k' hw hh')
end search
end Go.Proofs.YtkhnohnkcdcajaaDoor.Sal
