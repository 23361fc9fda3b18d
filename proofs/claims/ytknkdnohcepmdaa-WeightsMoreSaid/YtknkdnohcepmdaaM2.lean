/- Plain: what weights.best works out is the best of all matchings. -/
import Derived.Test.YtknkdnohcepmdaaM1
import Derived.Test.YtknkdnohcepmdaaW5
namespace Go.Proofs.Ytknkdnohcepmdaa.Sal
set_option linter.all false

/-- v is the best value, and numbers prove it. -/
structure Opt (G : Nat → Nat → Int) (m L : Nat) (v : Int) : Prop where
  le : ∀ τ, Inj τ L → val G m L τ ≤ v
  ge : ∀ u p, Dual G m L u p → v ≤ sm u m + sm p L
  has : ∃ τ, Inj τ L ∧ val G m L τ = v
  dual : ∃ u p, Dual G m L u p ∧ sm u m + sm p L = v
theorem opt_ex (G : Nat → Nat → Int) (m L : Nat) : ∃ v, Opt G m L v := by
  obtain ⟨u, p, τ, hd, hi, hv⟩ := strong G m L
  exact ⟨val G m L τ, fun τ' h' => by rw [hv]; exact weak h' hd, fun u' p' hd' => weak hi hd', ⟨τ, hi, rfl⟩, ⟨u, p, hd, hv.symm⟩⟩
theorem opt_eq {G : Nat → Nat → Int} {m L : Nat} {v : Int} (h1 : ∃ τ, Inj τ L ∧ v ≤ val G m L τ) (h2 : ∃ u p, Dual G m L u p ∧ sm u m + sm p L ≤ v) : Opt G m L v := by
  obtain ⟨τ, hi, h1⟩ := h1
  obtain ⟨u, p, hd, h2⟩ := h2
  have := weak hi hd
  exact ⟨fun τ' h' => by have := weak h' hd; omega, fun u' p' hd' => by have := weak hi hd'; omega, ⟨τ, hi, by omega⟩, ⟨u, p, hd, by omega⟩⟩
theorem opt_uniq {G : Nat → Nat → Int} {m L : Nat} {v w : Int} (h1 : Opt G m L v) (h2 : Opt G m L w) : v = w := by
  obtain ⟨τ, hi, e⟩ := h1.has
  obtain ⟨τ', hi', e'⟩ := h2.has
  have := h1.le τ' hi'
  have := h2.le τ hi
  omega
theorem opt_of_bounds {G : Nat → Nat → Int} {m L : Nat} {v : Int} (h1 : ∀ τ, Inj τ L → val G m L τ ≤ v) (h2 : ∀ u p, Dual G m L u p → v ≤ sm u m + sm p L) : Opt G m L v := by
  obtain ⟨w, hw⟩ := opt_ex G m L
  obtain ⟨τ, hi, e⟩ := hw.has
  obtain ⟨u, p, hd, e'⟩ := hw.dual
  have := h1 τ hi
  have := h2 u p hd
  have : v = w := by omega
  rw [this]; exact hw

/-! ### The table of the program -/
theorem bit_sub {who i : Nat} (h : who.testBit i = true) (j : Nat) : (who - 2 ^ i).testBit j = (who.testBit j && !decide (i = j)) := by
  have := clr_two h
  rw [Nat.one_mul] at this
  rw [← this, clr_bit, Nat.testBit_two_pow]
theorem or_sub {who i : Nat} (h : who.testBit i = false) : (who ||| 2 ^ i) - 2 ^ i = who := by
  have hb : (who ||| 2 ^ i).testBit i = true := by rw [Nat.testBit_or, Nat.testBit_two_pow_self]; simp
  apply Nat.eq_of_testBit_eq
  intro j
  rw [bit_sub hb, Nat.testBit_or, Nat.testBit_two_pow]
  by_cases hij : i = j
  · subst hij; simp [h]
  · simp [hij]
theorem max'_ge1 (a b : Int) : a ≤ max' a b := by unfold max'; split <;> omega
theorem max'_ge2 (a b : Int) : b ≤ max' a b := by unfold max'; split <;> omega
theorem max'_le' {a b c : Int} (h1 : a ≤ c) (h2 : b ≤ c) : max' a b ≤ c := by unfold max'; split <;> omega
theorem inner_ge (g : List (List Int)) (k : Nat) (f : Nat → Int) (who : Nat) : ∀ n, f who ≤ inner g k f who n
  | 0 => Int.le_refl _
  | n + 1 => by
    have := inner_ge g k f who n
    unfold inner
    split
    · exact Int.le_trans this (max'_ge1 _ _)
    · exact this
theorem inner_has {g : List (List Int)} {k : Nat} {f : Nat → Int} {who i : Nat} (hb : who.testBit i = true) (h0 : 0 ≤ gain g i k) : ∀ n, i < n → f (who - 2 ^ i) + gain g i k ≤ inner g k f who n
  | n + 1, hi => by
    unfold inner
    by_cases h : i = n
    · subst h
      rw [if_pos ⟨hb, h0⟩]
      exact max'_ge2 _ _
    · have ih := inner_has (f := f) hb h0 n (by omega)
      split
      · exact Int.le_trans ih (max'_ge1 _ _)
      · exact ih
def bits (u : Nat → Int) (who : Nat) : Nat → Int := fun i => if who.testBit i = true then u i else 0
theorem bits_sub {u : Nat → Int} {who i m : Nat} (hb : who.testBit i = true) (hi : i < m) : sm (bits u (who - 2 ^ i)) m + u i = sm (bits u who) m := by
  have := sm_out (bits u who) hi
  rw [← this]
  have e1 : bits u who i = u i := by simp [bits, hb]
  rw [e1]
  have e2 : sm (bits u (who - 2 ^ i)) m = sm (fun j => if j = i then 0 else bits u who j) m := sm_congr m fun j _ => by
    unfold bits
    rw [bit_sub hb]
    by_cases hj : j = i
    · subst hj; simp
    · have : ¬ i = j := fun e => hj e.symm
      simp [hj, this]
  rw [e2]
theorem inner_le {g : List (List Int)} {k : Nat} {f : Nat → Int} {who m : Nat} {u : Nat → Int} {P q : Int} (hf : ∀ x, f x ≤ sm (bits u x) m + P) (hq : 0 ≤ q) (hc : ∀ i, i < m → gain g i k ≤ u i + q) :
    ∀ n, n ≤ m → inner g k f who n ≤ sm (bits u who) m + P + q
  | 0, _ => by have := hf who; unfold inner; omega
  | n + 1, hn => by
    have ih := inner_le (who := who) hf hq hc n (by omega)
    unfold inner
    split
    · rename_i h
      refine max'_le' ih ?_
      have h1 := hf (who - 2 ^ n)
      have h2 := bits_sub (u := u) (m := m) h.1 (by omega)
      have h3 := hc n (by omega)
      omega
    · exact ih
theorem best_upper {g : List (List Int)} {ks : List Nat} {u p : Nat → Int} (hd : Dual (fun i j => gain g i (ks.getD j 0)) g.length ks.length u p) : ∀ j, j ≤ ks.length → ∀ who, bestH g (ks.take j) zeroF who ≤ sm (bits u who) g.length + sm p j
  | 0, _, who => by
    have : 0 ≤ sm (bits u who) g.length := sm_nonneg _ fun i hi => by unfold bits; have := hd.u0 i hi; split <;> omega
    simp only [List.take_zero, bestH, zeroF, sm]; omega
  | j + 1, hj, who => by
    have ih := best_upper hd j (by omega)
    rw [take_snocN ks j (by omega), bestH_snoc]
    unfold stepH
    have hp := hd.p0 j (by omega)
    split
    · have := inner_le (who := who) (P := sm p j) (q := p j) ih hp (fun i hi => hd.cov i j hi (by omega)) g.length (Nat.le_refl _)
      simp only [sm]; omega
    · have := ih who
      simp only [sm]; omega
theorem best_lower {g : List (List Int)} {ks : List Nat} {τ : Nat → Nat} (hi : Inj τ ks.length) : ∀ j, j ≤ ks.length → ∃ who, who < 2 ^ g.length ∧ (∀ i, who.testBit i = true → ∃ j', j' < j ∧ τ j' = i) ∧ sm (wt (fun i j => gain g i (ks.getD j 0)) g.length τ) j ≤ bestH g (ks.take j) zeroF who
  | 0, _ => ⟨0, Nat.two_pow_pos _, fun i h => by simp at h, Int.le_refl _⟩
  | j + 1, hj => by
    obtain ⟨who, h1, h2, h3⟩ := best_lower hi j (by omega)
    rw [take_snocN ks j (by omega)]
    simp only [bestH_snoc, sm]
    by_cases hc : τ j < g.length ∧ 0 ≤ gain g (τ j) (ks.getD j 0)
    · have hbit : who.testBit (τ j) = false := by
        cases hb : who.testBit (τ j) with
        | false => rfl
        | true =>
          obtain ⟨j', hj', e⟩ := h2 _ hb
          have := hi j' j (by omega) (by omega) e
          omega
      have hlt : (who ||| 2 ^ τ j) < 2 ^ g.length := Nat.or_lt_two_pow h1 (Nat.pow_lt_pow_right (by omega) hc.1)
      refine ⟨who ||| 2 ^ τ j, hlt, fun i hb => ?_, ?_⟩
      · rw [Nat.testBit_or, Nat.testBit_two_pow] at hb
        by_cases e : τ j = i
        · exact ⟨j, by omega, e⟩
        · simp [e] at hb
          obtain ⟨j', hj', e'⟩ := h2 i hb
          exact ⟨j', by omega, e'⟩
      · have hb : (who ||| 2 ^ τ j).testBit (τ j) = true := by rw [Nat.testBit_or, Nat.testBit_two_pow_self]; simp
        have h4 := inner_has (f := bestH g (ks.take j) zeroF) hb hc.2 g.length hc.1
        rw [or_sub hbit] at h4
        unfold stepH
        rw [if_pos hlt]
        have e : wt (fun i j => gain g i (ks.getD j 0)) g.length τ j = gain g (τ j) (ks.getD j 0) := by unfold wt; rw [if_pos hc.1, if_pos hc.2]
        rw [e]; omega
    · refine ⟨who, h1, fun i hb => ?_, ?_⟩
      · obtain ⟨j', hj', e'⟩ := h2 i hb
        exact ⟨j', by omega, e'⟩
      · unfold stepH
        rw [if_pos h1]
        have h4 := inner_ge g (ks.getD j 0) (bestH g (ks.take j) zeroF) who g.length
        have e : wt (fun i j => gain g i (ks.getD j 0)) g.length τ j = 0 := by
          unfold wt
          by_cases h5 : τ j < g.length
          · rw [if_pos h5, if_neg (fun h6 => hc ⟨h5, h6⟩)]
          · rw [if_neg h5]
        rw [e]; omega
theorem maxL_ge : ∀ (l : List Int) (m : Int), m ≤ maxL m l ∧ ∀ x ∈ l, x ≤ maxL m l
  | [], m => ⟨Int.le_refl _, fun x h => by cases h⟩
  | y :: l, m => by
    have h := maxL_ge l (if m < y then y else m)
    have h1 : m ≤ (if m < y then y else m) ∧ y ≤ (if m < y then y else m) := by split <;> omega
    refine ⟨Int.le_trans h1.1 h.1, fun x hx => ?_⟩
    rcases List.mem_cons.1 hx with rfl | hx
    · exact Int.le_trans h1.2 h.1
    · exact h.2 x hx
theorem maxL_le {c : Int} : ∀ (l : List Int) (m : Int), m ≤ c → (∀ x ∈ l, x ≤ c) → maxL m l ≤ c
  | [], m, h, _ => h
  | y :: l, m, h, hl => maxL_le l _ (by have := hl y (by simp); split <;> omega) (fun x hx => hl x (by simp [hx]))
theorem bestF_opt {g : List (List Int)} (hm : g.length ≤ 8) (ks : List Nat) : Opt (fun i j => gain g i (ks.getD j 0)) g.length ks.length (bestF g ks) := by
  refine opt_of_bounds (fun τ hi => ?_) (fun u p hd => ?_)
  · obtain ⟨who, h1, _, h3⟩ := best_lower (g := g) hi ks.length (Nat.le_refl _)
    rw [List.take_length] at h3
    refine Int.le_trans h3 ((maxL_ge _ _).2 _ (List.mem_map.2 ⟨who, List.mem_range.2 (Nat.lt_of_lt_of_le h1 (pow_le_256 hm)), rfl⟩))
  · refine maxL_le _ _ (Int.add_nonneg (sm_nonneg _ hd.u0) (sm_nonneg _ hd.p0)) (fun x hx => ?_)
    obtain ⟨who, _, rfl⟩ := List.mem_map.1 hx
    have h1 := best_upper hd ks.length (Nat.le_refl _) who
    rw [List.take_length] at h1
    have h2 : sm (bits u who) g.length ≤ sm u g.length := sm_le _ fun i hi => by unfold bits; have := hd.u0 i hi; split <;> omega
    omega
#print axioms bestF_opt
end Go.Proofs.Ytknkdnohcepmdaa.Sal
