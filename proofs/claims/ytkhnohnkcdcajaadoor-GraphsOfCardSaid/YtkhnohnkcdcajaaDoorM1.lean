/- Plain: counts, Hall's theorem (by Rado's proof), the duality of the best matching. -/
set_option maxRecDepth 100000
namespace Go.Proofs.YtkhnohnkcdcajaaDoor.Sal
set_option linter.all false

/-! ### Counts -/
def cnt (s : Nat → Bool) : Nat → Nat
  | 0 => 0
  | n + 1 => cnt s n + (if s n = true then 1 else 0)
theorem cnt_le {s t : Nat → Bool} : ∀ (n : Nat), (∀ i, i < n → s i = true → t i = true) → cnt s n ≤ cnt t n
  | 0, _ => Nat.le_refl _
  | n + 1, h => by
    have h1 := cnt_le n (fun i hi => h i (by omega))
    have h2 := h n (by omega)
    unfold cnt
    by_cases hs : s n = true
    · simp [hs, h2 hs]; omega
    · simp [hs]; omega
theorem cnt_congr {s t : Nat → Bool} (n : Nat) (h : ∀ i, i < n → s i = t i) : cnt s n = cnt t n :=
  Nat.le_antisymm (cnt_le n fun i hi hs => by rw [← h i hi]; exact hs) (cnt_le n fun i hi hs => by rw [h i hi]; exact hs)
theorem cnt_bound (s : Nat → Bool) : ∀ n, cnt s n ≤ n
  | 0 => Nat.le_refl _
  | n + 1 => by have := cnt_bound s n; unfold cnt; split <;> omega
theorem cnt_drop {s : Nat → Bool} {i : Nat} : ∀ {n : Nat}, i < n → s i = true → cnt (fun j => s j && !(j == i)) n + 1 = cnt s n
  | n + 1, hi, hs => by
    by_cases h : i = n
    · subst h
      have e : cnt (fun j => s j && !(j == i)) i = cnt s i := cnt_congr i fun j hj => by
        have : (j == i) = false := by simp; omega
        simp [this]
      simp [cnt, hs, e]
    · have ih := cnt_drop (n := n) (by omega) hs
      have : (n == i) = false := by simp; omega
      simp only [cnt, this]
      simp
      omega
/-! ### Hall's theorem -/
noncomputable def nb (R : Nat → Nat → Bool) (N : Nat) (s : Nat → Bool) (k : Nat) : Bool := @decide (∃ i, i < N ∧ s i = true ∧ R i k = true) (Classical.propDecidable _)
def Hall (R : Nat → Nat → Bool) (N M : Nat) : Prop := ∀ s, cnt s N ≤ cnt (nb R N s) M
def edges (R : Nat → Nat → Bool) (M : Nat) : Nat → Nat
  | 0 => 0
  | n + 1 => edges R M n + cnt (R n) M
/-! ### Sums -/
def sm (f : Nat → Int) : Nat → Int
  | 0 => 0
  | n + 1 => sm f n + f n
/-- What a map of columns to rows gains: where the row is none, or nothing is gained, 0. -/
def wt (G : Nat → Nat → Int) (m : Nat) (τ : Nat → Nat) (j : Nat) : Int := if τ j < m then (if 0 ≤ G (τ j) j then G (τ j) j else 0) else 0
def val (G : Nat → Nat → Int) (m L : Nat) (τ : Nat → Nat) : Int := sm (wt G m τ) L
end Go.Proofs.YtkhnohnkcdcajaaDoor.Sal
