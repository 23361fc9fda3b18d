/- Plain: the numbers of weights.Proved are the least that prove the best. -/
import Derived.Test.YtknkdnohcepmdaaM2
import Derived.Test.YtknkdnohcepmdaaL1
namespace Go.Proofs.Ytknkdnohcepmdaa.Sal
set_option linter.all false

theorem dual_congr {G G' : Nat → Nat → Int} {m L : Nat} {u u' p p' : Nat → Int} (hG : ∀ i j, i < m → j < L → G i j = G' i j) (hu : ∀ i, i < m → u i = u' i) (hp : ∀ j, j < L → p j = p' j) (h : Dual G m L u p) : Dual G' m L u' p' :=
  ⟨fun i hi => by rw [← hu i hi]; exact h.u0 i hi, fun j hj => by rw [← hp j hj]; exact h.p0 j hj, fun i j hi hj => by rw [← hG i j hi hj, ← hu i hi, ← hp j hj]; exact h.cov i j hi hj⟩
theorem val_congr {G G' : Nat → Nat → Int} {m L : Nat} {τ : Nat → Nat} (hG : ∀ i j, i < m → j < L → G i j = G' i j) : val G m L τ = val G' m L τ := sm_congr L fun j hj => by
  unfold wt
  by_cases h : τ j < m
  · simp only [h, if_true, hG _ _ h hj]
  · simp only [h, if_false]
theorem opt_congr {G G' : Nat → Nat → Int} {m L : Nat} {v : Int} (hG : ∀ i j, i < m → j < L → G i j = G' i j) (h : Opt G m L v) : Opt G' m L v :=
  opt_of_bounds (fun τ hi => by rw [← val_congr hG]; exact h.le τ hi) (fun u p hd => h.ge u p (dual_congr (fun i j hi hj => (hG i j hi hj).symm) (fun _ _ => rfl) (fun _ _ => rfl) hd))
/-- One more of column k, as the last. -/
def addc (G : Nat → Nat → Int) (n k : Nat) : Nat → Nat → Int := fun i j => if j < n then G i j else G i k
theorem price_ge {G : Nat → Nat → Int} {m n k : Nat} {V W : Int} {u p : Nat → Int} (hk : k < n) (hW : Opt (addc G n k) m (n + 1) W) (hd : Dual G m n u p) (hs : sm u m + sm p n = V) : W - V ≤ p k := by
  have d : Dual (addc G n k) m (n + 1) u (fun j => if j < n then p j else p k) := by
    refine ⟨hd.u0, fun j _ => ?_, fun i j hi _ => ?_⟩
    · by_cases h : j < n
      · simp only [h, if_true]; exact hd.p0 j h
      · simp only [h, if_false]; exact hd.p0 k hk
    · unfold addc
      by_cases h : j < n
      · simp only [h, if_true]; exact hd.cov i j hi h
      · simp only [h, if_false]; exact hd.cov i k hi hk
  have := hW.ge _ _ d
  have e : sm (fun j => if j < n then p j else p k) (n + 1) = sm p n + p k := by
    simp only [sm]
    rw [sm_congr (g := p) n (fun j hj => by simp [hj])]
    simp
  omega
theorem sm_repl (p : Nat → Int) {k n : Nat} (hk : k < n) (c : Int) : sm (fun j => if j = k then c else p j) n = sm p n - p k + c := by
  have h1 := sm_out p hk
  have h2 := sm_out (fun j => if j = k then c else p j) hk
  have e : sm (fun j => if j = k then 0 else (fun j => if j = k then c else p j) j) n = sm (fun j => if j = k then 0 else p j) n := sm_congr n fun j _ => by
    by_cases h : j = k <;> simp [h]
  rw [e] at h2
  simp only [if_true] at h2
  omega
theorem price_has {G : Nat → Nat → Int} {m n k : Nat} {V W : Int} (hk : k < n) (hV : Opt G m n V) (hW : Opt (addc G n k) m (n + 1) W) : ∃ u p, Dual G m n u p ∧ sm u m + sm p n = V ∧ p k = W - V := by
  obtain ⟨t, ht⟩ : ∃ t, t = W - V := ⟨_, rfl⟩
  have ht0 : 0 ≤ t := by
    obtain ⟨τ, hi, hv⟩ := hV.has
    -- an unused row for the last column
    obtain ⟨x, hx⟩ : ∃ x, ∀ j, j < n → τ j < x ∧ m ≤ x := by
      have : ∀ n', ∃ x, m ≤ x ∧ ∀ j, j < n' → τ j < x := by
        intro n'
        induction n' with
        | zero => exact ⟨m, Nat.le_refl _, fun j h => absurd h (Nat.not_lt_zero _)⟩
        | succ n' ih =>
          obtain ⟨x, h1, h2⟩ := ih
          refine ⟨x + τ n' + 1, by omega, fun j hj => ?_⟩
          by_cases e : j = n'
          · subst e; omega
          · have := h2 j (by omega); omega
      obtain ⟨x, h1, h2⟩ := this n
      exact ⟨x, fun j hj => ⟨h2 j hj, h1⟩⟩
    have hi2 : Inj (fun j => if j < n then τ j else x) (n + 1) := by
      intro a b ha hb e
      by_cases h1 : a < n <;> by_cases h2 : b < n <;> simp only [h1, h2, if_true, if_false] at e
      · exact hi a b h1 h2 e
      · have := (hx a h1).1; omega
      · have := (hx b h2).1; omega
      · omega
    have := hW.le _ hi2
    have e : val (addc G n k) m (n + 1) (fun j => if j < n then τ j else x) = V := by
      unfold val
      simp only [sm]
      have e1 : wt (addc G n k) m (fun j => if j < n then τ j else x) n = 0 := by
        unfold wt
        have : ¬ x < m := by have := (hx k hk).2; omega
        simp [this]
      have e2 : sm (wt (addc G n k) m (fun j => if j < n then τ j else x)) n = V := by
        rw [← hv]
        exact sm_congr n fun j hj => by unfold wt addc; simp [hj]
      omega
    omega
  let G2 : Nat → Nat → Int := fun i j => if i < m then addc G n k i j else (if j = n then t else -1)
  have g2a : ∀ i j, i < m → G2 i j = addc G n k i j := fun i j h => if_pos h
  have g2b : ∀ j, j ≠ n → G2 m j = -1 := fun j h => by show (if m < m then _ else _) = _; simp [h]
  have g2c : G2 m n = t := by show (if m < m then _ else _) = _; simp
  obtain ⟨V2, h2⟩ := opt_ex G2 (m + 1) (n + 1)
  have hV2 : V2 ≤ W := by
    obtain ⟨τ, hi, hv⟩ := h2.has
    by_cases hd : τ n = m
    · have e1 : wt G2 (m + 1) τ n = t := by
        unfold wt
        rw [hd, g2c, if_pos (by omega), if_pos ht0]
      have e2 : sm (wt G2 (m + 1) τ) n = val G m n τ := sm_congr n fun j hj => by
        have hne : τ j ≠ m := fun e => by have := hi j n (by omega) (by omega) (by rw [e, hd]); omega
        unfold wt
        by_cases h : τ j < m
        · have h' : τ j < m + 1 := by omega
          have e : addc G n k (τ j) j = G (τ j) j := if_pos hj
          rw [if_pos h', if_pos h, g2a _ _ h, e]
        · have h' : ¬ τ j < m + 1 := by omega
          rw [if_neg h', if_neg h]
      have := hV.le τ (fun a b ha hb e => hi a b (by omega) (by omega) e)
      have e3 : val G2 (m + 1) (n + 1) τ = sm (wt G2 (m + 1) τ) n + wt G2 (m + 1) τ n := rfl
      omega
    · have := hW.le τ hi
      have e : val G2 (m + 1) (n + 1) τ = val (addc G n k) m (n + 1) τ := sm_congr (n + 1) fun j hj => by
        unfold wt
        by_cases h : τ j < m
        · have h' : τ j < m + 1 := by omega
          rw [if_pos h', if_pos h, g2a _ _ h]
        · by_cases h3 : τ j = m
          · have hjn : j ≠ n := fun e => hd (by rw [← e]; exact h3)
            rw [h3, g2b j hjn]
            simp
          · have h' : ¬ τ j < m + 1 := by omega
            rw [if_neg h', if_neg h]
      omega
  obtain ⟨u, p, hd, hs⟩ := h2.dual
  have d1 : Dual (addc G n k) m (n + 1) u p := ⟨fun i hi => hd.u0 i (by omega), hd.p0, fun i j hi hj => by rw [← g2a i j hi]; exact hd.cov i j (by omega) hj⟩
  have s1 := hW.ge u p d1
  have es : sm u (m + 1) = sm u m + u m := rfl
  have ep : sm p (n + 1) = sm p n + p n := rfl
  have um := hd.u0 m (by omega)
  have c1 := hd.cov m n (by omega) (by omega)
  rw [g2c] at c1
  have p'_le : (if p k ≤ p n then p k else p n) ≤ p k ∧ (if p k ≤ p n then p k else p n) ≤ p n ∧ 0 ≤ (if p k ≤ p n then p k else p n) := by
    have := hd.p0 k (by omega)
    have := hd.p0 n (by omega)
    split <;> omega
  obtain ⟨c, hc⟩ : ∃ c, c = (if p k ≤ p n then p k else p n) := ⟨_, rfl⟩
  have hcor : c = p k ∨ c = p n := by rw [hc]; split <;> simp
  rw [← hc] at p'_le
  have d2 : Dual G m n u (fun j => if j = k then c else p j) := by
    refine ⟨fun i hi => hd.u0 i (by omega), fun j hj => ?_, fun i j hi hj => ?_⟩
    · by_cases h : j = k
      · rw [if_pos h]; exact p'_le.2.2
      · rw [if_neg h]; exact hd.p0 j (by omega)
    · have a1 := d1.cov i j hi (by omega)
      have e1 : addc G n k i j = G i j := if_pos hj
      rw [e1] at a1
      by_cases h : j = k
      · rw [if_pos h]
        have a2 := d1.cov i n hi (by omega)
        have e2 : addc G n k i n = G i k := if_neg (Nat.lt_irrefl _)
        rw [e2] at a2
        rw [h] at a1 ⊢
        rcases hcor with e | e <;> rw [e]
        · exact a1
        · exact a2
      · rw [if_neg h]; exact a1
  have s2 := hV.ge _ _ d2
  rw [sm_repl p hk c] at s2
  have s3 : sm u m + (sm p n - p k + c) = V := by omega
  have l1 := price_ge (V := V) hk hW d2 (by rw [sm_repl p hk c]; exact s3)
  simp only [if_true] at l1
  exact ⟨u, _, d2, by rw [sm_repl p hk c]; exact s3, by rw [if_pos rfl]; omega⟩
/-- The lower of two that prove the best proves it. -/
theorem meet {G : Nat → Nat → Int} {m n : Nat} {V : Int} {u p u' p' : Nat → Int} (hV : Opt G m n V) (h : Dual G m n u p) (hs : sm u m + sm p n = V) (h' : Dual G m n u' p') (hs' : sm u' m + sm p' n = V) :
    Dual G m n (fun i => if u i ≤ u' i then u' i else u i) (fun j => if p j ≤ p' j then p j else p' j) ∧ sm (fun i => if u i ≤ u' i then u' i else u i) m + sm (fun j => if p j ≤ p' j then p j else p' j) n = V := by
  have d1 : Dual G m n (fun i => if u i ≤ u' i then u' i else u i) (fun j => if p j ≤ p' j then p j else p' j) := by
    refine ⟨fun i hi => ?_, fun j hj => ?_, fun i j hi hj => ?_⟩
    · have := h.u0 i hi; have := h'.u0 i hi; split <;> omega
    · have := h.p0 j hj; have := h'.p0 j hj; split <;> omega
    · have := h.cov i j hi hj; have := h'.cov i j hi hj; split <;> split <;> omega
  have d2 : Dual G m n (fun i => if u i ≤ u' i then u i else u' i) (fun j => if p j ≤ p' j then p' j else p j) := by
    refine ⟨fun i hi => ?_, fun j hj => ?_, fun i j hi hj => ?_⟩
    · have := h.u0 i hi; have := h'.u0 i hi; split <;> omega
    · have := h.p0 j hj; have := h'.p0 j hj; split <;> omega
    · have := h.cov i j hi hj; have := h'.cov i j hi hj; split <;> split <;> omega
  refine ⟨d1, ?_⟩
  have a := hV.ge _ _ d1
  have b := hV.ge _ _ d2
  have e1 : sm (fun i => (if u i ≤ u' i then u' i else u i) + (if u i ≤ u' i then u i else u' i)) m = sm (fun i => u i + u' i) m := sm_congr m fun i _ => by split <;> omega
  have e2 : sm (fun j => (if p j ≤ p' j then p j else p' j) + (if p j ≤ p' j then p' j else p j)) n = sm (fun j => p j + p' j) n := sm_congr n fun j _ => by split <;> omega
  rw [sm_add, sm_add u u'] at e1
  rw [sm_add, sm_add p p'] at e2
  omega
theorem prices {G : Nat → Nat → Int} {m n : Nat} {V : Int} (W : Nat → Int) (hV : Opt G m n V) (hW : ∀ k, k < n → Opt (addc G n k) m (n + 1) (W k)) : ∃ u, Dual G m n u (fun k => W k - V) ∧ sm u m + sm (fun k => W k - V) n = V := by
  have key : ∀ r, r ≤ n → ∃ u p, Dual G m n u p ∧ sm u m + sm p n = V ∧ ∀ k, k < r → p k ≤ W k - V := by
    intro r
    induction r with
    | zero =>
      intro _
      obtain ⟨u, p, hd, hs⟩ := hV.dual
      exact ⟨u, p, hd, hs, fun k h => absurd h (Nat.not_lt_zero _)⟩
    | succ r ih =>
      intro hr
      obtain ⟨u, p, hd, hs, hk⟩ := ih (by omega)
      obtain ⟨u', p', hd', hs', hk'⟩ := price_has (by omega) hV (hW r (by omega))
      obtain ⟨d, s⟩ := meet hV hd hs hd' hs'
      refine ⟨_, _, d, s, fun k hkr => ?_⟩
      by_cases e : k = r
      · subst e; split <;> omega
      · have := hk k (by omega); split <;> omega
  obtain ⟨u, p, hd, hs, hk⟩ := key n (Nat.le_refl _)
  have e : ∀ k, k < n → p k = W k - V := fun k hkn => by
    have := hk k hkn
    have := price_ge hkn (hW k hkn) hd hs
    omega
  exact ⟨u, dual_congr (fun _ _ _ _ => rfl) (fun _ _ => rfl) e hd, by rw [← sm_congr n e]; exact hs⟩

/-! ### Of the program's numbers -/
theorem VV_opt {g : List (List Int)} (hm : g.length ≤ 8) (n : Nat) : Opt (gain g) g.length n (VV g n) := by
  have h := bestF_opt hm (List.range n)
  rw [List.length_range] at h
  exact opt_congr (fun i j _ hj => by simp [hj]) h
theorem WW_opt {g : List (List Int)} (hm : g.length ≤ 8) (n k : Nat) : Opt (addc (gain g) n k) g.length (n + 1) (bestF g (List.range n ++ [k])) := by
  have h := bestF_opt hm (List.range n ++ [k])
  rw [List.length_append, List.length_range, List.length_singleton] at h
  refine opt_congr (fun i j _ hj => ?_) h
  unfold addc
  by_cases hjn : j < n
  · rw [if_pos hjn, List.getD_eq_getElem?_getD, List.getElem?_append_left (by simpa using hjn)]; simp [hjn]
  · obtain rfl : j = n := by omega
    rw [if_neg hjn, List.getD_eq_getElem?_getD, List.getElem?_append_right (by simp)]; simp
theorem uu_least {g : List (List Int)} {n i : Nat} {c : Int} (h0 : 0 ≤ c) : ∀ m, (∀ k, k < m → gain g i k ≤ c + pk g n k) → uu g n i m ≤ c
  | 0, _ => h0
  | m + 1, h => by
    have ih := uu_least h0 m (fun k hk => h k (by omega))
    have := h m (by omega)
    show max' _ _ ≤ c
    exact max'_le' ih (by omega)
theorem proved_dual {g : List (List Int)} (hm : g.length ≤ 8) (n : Nat) : Dual (gain g) g.length n (fun i => uu g n i n) (pk g n) ∧ sm (fun i => uu g n i n) g.length + sm (pk g n) n = VV g n := by
  have hV := VV_opt hm n
  obtain ⟨u, hd, hs⟩ := prices (fun k => bestF g (List.range n ++ [k])) hV (fun k _ => WW_opt hm n k)
  have d : Dual (gain g) g.length n (fun i => uu g n i n) (pk g n) := ⟨fun i _ => uu_nonneg g n i n, hd.p0, fun i j _ hj => uu_cover g n i n j hj⟩
  refine ⟨d, ?_⟩
  have h1 := hV.ge _ _ d
  have h2 : sm (fun i => uu g n i n) g.length ≤ sm u g.length := sm_le _ fun i hi => uu_least (hd.u0 i hi) n fun k hk => hd.cov i k hi hk
  have h3 : sm (fun k => bestF g (List.range n ++ [k]) - VV g n) n = sm (pk g n) n := rfl
  omega
theorem sum_sm (f : Nat → Int) : ∀ n, ((List.range n).map f).sum = sm f n
  | 0 => rfl
  | n + 1 => by rw [List.range_succ, List.map_append, List.sum_append, sum_sm f n]; simp [sm]
theorem wmath {g : List (List Int)} {m : Nat} (hc : checkG g (m : Int) = true) : WMath g m := by
  obtain ⟨m', hm, h1, h8, hG⟩ := check_good hc
  obtain rfl : m = m' := by omega
  obtain ⟨d, s⟩ := proved_dual hG.few m
  refine ⟨d.p0, ?_⟩
  unfold pL uL
  rw [sum_sm, sum_sm]; omega
#print axioms wmath
end Go.Proofs.Ytknkdnohcepmdaa.Sal
