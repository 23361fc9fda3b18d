/- What weights.best works out, item by item, over sets of bidders by their bits: plain. -/
namespace Go.Proofs.Ytknkdnohcepmdaa.Sal
set_option linter.all false
def gain (g : List (List Int)) (i k : Nat) : Int := (g.getD i []).getD k 0
def max' (a b : Int) : Int := if a < b then b else a
/-- The most for the bidders in `who`, with one item more, item k, when the first n bidders were asked. -/
def inner (g : List (List Int)) (k : Nat) (f : Nat → Int) (who : Nat) : Nat → Int
  | 0 => f who
  | i + 1 => if who.testBit i = true ∧ 0 ≤ gain g i k then max' (inner g k f who i) (f (who - 2 ^ i) + gain g i k) else inner g k f who i
def stepH (g : List (List Int)) (k : Nat) (f : Nat → Int) (who : Nat) : Int := if who < 2 ^ g.length then inner g k f who g.length else f who
def bestH (g : List (List Int)) : List Nat → (Nat → Int) → Nat → Int
  | [], f => f
  | k :: ks, f => bestH g ks (stepH g k f)
def Bnd (f : Nat → Int) (M : Int) : Prop := ∀ x, 0 ≤ f x ∧ f x ≤ M
theorem max'_bnd {a b M : Int} (ha : 0 ≤ a ∧ a ≤ M) (hb : 0 ≤ b ∧ b ≤ M) : 0 ≤ max' a b ∧ max' a b ≤ M := by unfold max'; split <;> assumption
theorem inner_bnd {g : List (List Int)} {k : Nat} {f : Nat → Int} {M : Int} (hf : Bnd f M) (hg : ∀ i, gain g i k ≤ 1000000) (who : Nat) : ∀ n, 0 ≤ inner g k f who n ∧ inner g k f who n ≤ M + 1000000
  | 0 => by have := hf who; unfold inner; omega
  | n + 1 => by
    unfold inner
    split
    · rename_i h
      have := hf (who - 2 ^ n)
      have := hg n
      exact max'_bnd (inner_bnd hf hg who n) (by omega)
    · exact inner_bnd hf hg who n
theorem stepH_bnd {g : List (List Int)} {k : Nat} {f : Nat → Int} {M : Int} (hf : Bnd f M) (hg : ∀ i, gain g i k ≤ 1000000) : Bnd (stepH g k f) (M + 1000000) := by
  intro x
  unfold stepH
  split
  · exact inner_bnd hf hg x _
  · have := hf x; omega
theorem bestH_snoc (g : List (List Int)) (ks : List Nat) (k : Nat) (f : Nat → Int) : bestH g (ks ++ [k]) f = stepH g k (bestH g ks f) := by
  induction ks generalizing f with
  | nil => rfl
  | cons a ks ih => exact ih _
theorem bestH_bnd {g : List (List Int)} (hg : ∀ i k, gain g i k ≤ 1000000) : ∀ (ks : List Nat) (f : Nat → Int) (M : Int), Bnd f M → Bnd (bestH g ks f) (M + 1000000 * ks.length)
  | [], f, M, h => by simpa [bestH] using h
  | k :: ks, f, M, h => by
    have := bestH_bnd hg ks _ _ (stepH_bnd h (fun i => hg i k))
    intro x
    have h2 := this x
    simp only [List.length_cons, bestH]
    have e : ((ks.length + 1 : Nat) : Int) = (ks.length : Int) + 1 := by omega
    rw [e]; omega
def zeroF : Nat → Int := fun _ => 0
theorem zero_bnd : Bnd zeroF 0 := fun _ => ⟨Int.le_refl _, Int.le_refl _⟩
end Go.Proofs.Ytknkdnohcepmdaa.Sal
