/- Plain: a matching with one taken away, and turned. -/
import Derived.Test.YtkhnohnkcdcajaaP8
namespace Go.Proofs.Ytkhnohnkcdcajaa.Sal
set_option linter.all false
theorem fit_less {R : Nat → Nat → Bool} {m n : Nat} {l : List Int} (h : FitR R m n l) {p : Nat} (hp : p < m) : FitR R m n (l.set p (-1)) := by
  have hpl : p < l.length := by rw [h.len]; exact hp
  refine ⟨by rw [List.length_set]; exact h.len, fun i hi => ?_, fun i j hi hj he hne => ?_⟩
  · rw [getD_setI _ _ _ _ hpl]
    by_cases e : i = p
    · rw [if_pos e]; exact .inl rfl
    · rw [if_neg e]; exact h.ok i hi
  · rw [getD_setI _ _ _ _ hpl] at he hne
    rw [getD_setI _ _ _ _ hpl] at he
    by_cases e : i = p
    · rw [if_pos e] at hne; exact absurd rfl hne
    · rw [if_neg e] at he hne
      by_cases e2 : j = p
      · rw [if_pos e2] at he; exact absurd he hne
      · rw [if_neg e2] at he
        exact h.inj i j hi hj he hne
def turnL (l : List Int) (m n : Nat) : List Int := (List.range n).map fun k => (holdN l m k : Int) - 1
theorem turnL_get {l : List Int} {m n k : Nat} (hk : k < n) : (turnL l m n).getD k (-1) = (holdN l m k : Int) - 1 := by simp [turnL, hk]
theorem turnL_len (l : List Int) (m n : Nat) : (turnL l m n).length = n := by simp [turnL]
theorem hold_of {l : List Int} {k : Nat} {m : Nat} (h : 0 < holdN l m k) : holdN l m k - 1 < m ∧ l.getD (holdN l m k - 1) (-1) = (k : Int) := holdN_pos h
theorem fit_hold {R : Nat → Nat → Bool} {m n : Nat} {l : List Int} (h : FitR R m n l) {i k : Nat} (hi : i < m) (hv : l.getD i (-1) = (k : Int)) : holdN l m k = i + 1 := by
  rcases Nat.eq_zero_or_pos (holdN l m k) with h0 | h0
  · exact absurd hv (holdN_zero h0 i hi)
  · obtain ⟨h1, h2⟩ := hold_of h0
    have := h.inj _ i h1 hi (by rw [h2, hv]) (by rw [h2]; omega)
    omega
theorem fit_turn {R : Nat → Nat → Bool} {m n : Nat} {l : List Int} (h : FitR R m n l) : FitR (fun k i => R i k) n m (turnL l m n) := by
  refine ⟨turnL_len l m n, fun k hk => ?_, fun k j hk hj he hne => ?_⟩
  · rw [turnL_get hk]
    rcases Nat.eq_zero_or_pos (holdN l m k) with h0 | h0
    · left; omega
    · right
      obtain ⟨h1, h2⟩ := hold_of h0
      refine ⟨holdN l m k - 1, h1, by omega, ?_⟩
      rcases h.ok _ h1 with h3 | ⟨q, _, h4, h5⟩
      · omega
      · have : q = k := by omega
        rw [this] at h5; exact h5
  · rw [turnL_get hk] at he hne
    rw [turnL_get hj] at he
    have h0 : 0 < holdN l m k := by omega
    have h9 : 0 < holdN l m j := by omega
    obtain ⟨_, h2⟩ := hold_of h0
    obtain ⟨_, h4⟩ := hold_of h9
    have e : holdN l m k = holdN l m j := by omega
    rw [e, h4] at h2
    omega
theorem turn_many {R : Nat → Nat → Bool} {m n : Nat} {l : List Int} (h : FitR R m n l) : cnt (mat (turnL l m n)) n = cnt (mat l) m := by
  apply Nat.le_antisymm
  · refine cnt_inj (fun k => holdN l m k - 1) n _ (fun k hk hs => ?_) (fun k j hk hj hs hs' e => ?_)
    · rw [mat_iff, turnL_get hk] at hs
      obtain ⟨h1, h2⟩ := hold_of (show 0 < holdN l m k by omega)
      exact ⟨h1, by rw [mat_iff, h2]; omega⟩
    · rw [mat_iff, turnL_get hk] at hs
      rw [mat_iff, turnL_get hj] at hs'
      obtain ⟨_, h2⟩ := hold_of (show 0 < holdN l m k by omega)
      obtain ⟨_, h4⟩ := hold_of (show 0 < holdN l m j by omega)
      have e' : holdN l m k - 1 = holdN l m j - 1 := e
      rw [e', h4] at h2
      omega
  · refine cnt_inj (fun i => (l.getD i (-1)).toNat) m _ (fun i hi hs => ?_) (fun i j hi hj hs hs' e => ?_)
    · obtain ⟨k, hk, hv, _⟩ := fit_some h hi hs
      rw [hv]
      refine ⟨by simpa using hk, ?_⟩
      show mat (turnL l m n) ((k : Int)).toNat = true
      simp only [Int.toNat_natCast]
      rw [mat_iff, turnL_get hk, fit_hold h hi hv]; omega
    · obtain ⟨k, hk, hv, _⟩ := fit_some h hi hs
      obtain ⟨k', hk', hv', _⟩ := fit_some h hj hs'
      simp only [hv, hv'] at e
      have : k = k' := by simpa using e
      subst this
      exact h.inj i j hi hj (by rw [hv, hv']) (by rw [hv]; omega)
theorem less_many {l : List Int} {p : Nat} (hp : p < l.length) : cnt (mat (l.set p (-1))) l.length ≤ cnt (mat l) l.length ∧ cnt (mat l) l.length ≤ cnt (mat (l.set p (-1))) l.length + 1 := by
  have hm : ∀ i, mat (l.set p (-1)) i = (mat l i && !(i == p)) := fun i => by
    unfold mat
    rw [getD_setI _ _ _ _ hp]
    by_cases e : i = p
    · rw [if_pos e]; simp [e]
    · rw [if_neg e]
      have : (i == p) = false := by simpa using e
      simp [this]
  have h1 : cnt (mat (l.set p (-1))) l.length = cnt (fun i => mat l i && !(i == p)) l.length := cnt_congr _ fun i _ => hm i
  have h2 := cnt_split (mat l) (fun i => i == p) l.length
  have h3 : cnt (fun i => mat l i && (i == p)) l.length ≤ cnt (fun i => i == p) l.length := cnt_le _ fun i _ h => by simp at h; simp [h.2]
  have h4 := cnt_one p l.length hp
  omega
end Go.Proofs.Ytkhnohnkcdcajaa.Sal
