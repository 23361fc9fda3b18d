/- Plain: idle items and bidders, scaling, turning, one more bidder, one gain more. -/
import Derived.Test.YtknkdnohcepmdaaM4
namespace Go.Proofs.Ytknkdnohcepmdaa.Sal
set_option linter.all false

theorem pk_least {g : List (List Int)} {n k : Nat} {u p : Nat → Int} (hm : g.length ≤ 8) (hk : k < n) (hd : Dual (gain g) g.length n u p) (hs : sm u g.length + sm p n = VV g n) : pk g n k ≤ p k := by
  have := price_ge hk (WW_opt hm n k) hd hs
  unfold pk; omega
theorem uu_eq {g g' : List (List Int)} {n i i' : Nat} (hg : ∀ k, k < n → gain g' i' k = gain g i k) (hp : ∀ k, k < n → pk g' n k = pk g n k) : ∀ m, m ≤ n → uu g' n i' m = uu g n i m
  | 0, _ => rfl
  | m + 1, h => by
    show max' _ _ = max' _ _
    rw [uu_eq hg hp m (by omega), hg m (by omega), hp m (by omega)]
theorem uu_pn {g g' : List (List Int)} {n n' i i' : Nat} : ∀ m, (∀ k, k < m → gain g' i' k = gain g i k) → (∀ k, k < m → pk g' n' k = pk g n k) → uu g' n' i' m = uu g n i m
  | 0, _, _ => rfl
  | m + 1, hg, hp => by
    show max' _ _ = max' _ _
    rw [uu_pn m (fun k hk => hg k (by omega)) (fun k hk => hp k (by omega)), hg m (by omega), hp m (by omega)]
/-! ### Idle -/
theorem idle_law {g g' : List (List Int)} {n : Nat} (hm : g'.length ≤ 8) (hl : g'.length = g.length + 1) (h1 : ∀ a j, a < g.length → j < n → gain g' a j = gain g a j) (h2 : ∀ a, a < g.length → gain g' a n = -1) (h3 : ∀ j, j ≤ n → gain g' g.length j = -1) :
    VV g' (n + 1) = VV g n ∧ (∀ k, k < n → pk g' (n + 1) k = pk g n k) ∧ pk g' (n + 1) n = 0 ∧ (∀ i, i < g.length → uu g' (n + 1) i (n + 1) = uu g n i n) ∧ uu g' (n + 1) g.length (n + 1) = 0 := by
  have hm0 : g.length ≤ 8 := by omega
  have hV := VV_opt hm0 n
  have hV' := VV_opt hm (n + 1)
  rw [hl] at hV'
  obtain ⟨d, s⟩ := proved_dual hm0 n
  obtain ⟨d', s'⟩ := proved_dual hm (n + 1)
  rw [hl] at d' s'
  have up : Dual (gain g') (g.length + 1) (n + 1) (fun i => if i < g.length then uu g n i n else 0) (fun k => if k < n then pk g n k else 0) := by
    refine ⟨fun a ha => ?_, fun j hj => ?_, fun a j ha hj => ?_⟩
    · split
      · exact uu_nonneg g n a n
      · omega
    · split
      · rename_i h; exact d.p0 j h
      · omega
    · by_cases e1 : a < g.length
      · by_cases e2 : j < n
        · rw [if_pos e1, if_pos e2, h1 a j e1 e2]; exact d.cov a j e1 e2
        · obtain rfl : j = n := by omega
          rw [if_pos e1, if_neg e2, h2 a e1]
          have := uu_nonneg g j a j; omega
      · obtain rfl : a = g.length := by omega
        rw [if_neg e1, h3 j (by omega)]
        split
        · rename_i h; have := d.p0 j h; omega
        · omega
  have su : sm (fun i => if i < g.length then uu g n i n else 0) (g.length + 1) = sm (fun i => uu g n i n) g.length := by
    simp only [sm]
    rw [sm_congr (g := fun i => uu g n i n) g.length (fun i hi => by simp [hi])]; simp
  have sp : sm (fun k => if k < n then pk g n k else 0) (n + 1) = sm (pk g n) n := by
    simp only [sm]
    rw [sm_congr (g := pk g n) n (fun i hi => by simp [hi])]; simp
  have a1 := hV'.ge _ _ up
  rw [su, sp] at a1
  have down : Dual (gain g) g.length n (fun i => uu g' (n + 1) i (n + 1)) (pk g' (n + 1)) := ⟨fun a ha => d'.u0 a (by omega), fun j hj => d'.p0 j (by omega), fun a j ha hj => by rw [← h1 a j ha hj]; exact d'.cov a j (by omega) (by omega)⟩
  have a2 := hV.ge _ _ down
  have e1 : sm (fun i => uu g' (n + 1) i (n + 1)) (g.length + 1) = sm (fun i => uu g' (n + 1) i (n + 1)) g.length + uu g' (n + 1) g.length (n + 1) := rfl
  have e2 : sm (pk g' (n + 1)) (n + 1) = sm (pk g' (n + 1)) n + pk g' (n + 1) n := rfl
  have z1 := d'.u0 g.length (by omega)
  have z2 := d'.p0 n (by omega)
  have hVV : VV g' (n + 1) = VV g n := by omega
  have hp : ∀ k, k < n → pk g' (n + 1) k = pk g n k := fun k hk => by
    have b1 := pk_least hm0 hk down (by omega)
    have b2 := pk_least (g := g') hm (show k < n + 1 by omega) (by rw [hl]; exact up) (by rw [hl, su, sp]; omega)
    rw [if_pos hk] at b2
    omega
  have hz : pk g' (n + 1) n = 0 := by omega
  refine ⟨hVV, hp, hz, fun i hi => ?_, by omega⟩
  have b1 : uu g' (n + 1) i n = uu g n i n := uu_pn n (fun k hk => h1 i k hi hk) hp
  show max' (uu g' (n + 1) i n) (gain g' i n - pk g' (n + 1) n) = _
  rw [b1, hz, h2 i hi]
  have := uu_nonneg g n i n
  unfold max'
  rw [if_neg (by omega)]
/-! ### As often as great -/
theorem sm_mul (c : Int) (f : Nat → Int) : ∀ n, sm (fun i => c * f i) n = c * sm f n
  | 0 => by simp [sm]
  | n + 1 => by simp only [sm]; rw [sm_mul c f n, Int.mul_add]
theorem scale {G : Nat → Nat → Int} {m L : Nat} {v c : Int} (hc : 1 ≤ c) (h : Opt G m L v) : Opt (fun i j => c * G i j) m L (c * v) := by
  refine opt_eq ?_ ?_
  · obtain ⟨τ, hi, hv⟩ := h.has
    refine ⟨τ, hi, ?_⟩
    have : val (fun i j => c * G i j) m L τ = c * v := by
      rw [← hv]
      unfold val
      rw [← sm_mul]
      refine sm_congr L fun j hj => ?_
      unfold wt
      by_cases h1 : τ j < m
      · rw [if_pos h1, if_pos h1]
        by_cases h2 : 0 ≤ G (τ j) j
        · rw [if_pos h2, if_pos (Int.mul_nonneg (by omega) h2)]
        · have : ¬ 0 ≤ c * G (τ j) j := fun h3 => by
            have h4 : c * G (τ j) j < 0 := Int.mul_neg_of_pos_of_neg (by omega) (by omega)
            omega
          rw [if_neg h2, if_neg this]; simp
      · rw [if_neg h1, if_neg h1]; simp
    omega
  · obtain ⟨u, p, hd, hs⟩ := h.dual
    refine ⟨fun i => c * u i, fun j => c * p j, ⟨fun i hi => Int.mul_nonneg (by omega) (hd.u0 i hi), fun j hj => Int.mul_nonneg (by omega) (hd.p0 j hj), fun i j hi hj => ?_⟩, ?_⟩
    · rw [← Int.mul_add]
      exact Int.mul_le_mul_of_nonneg_left (hd.cov i j hi hj) (by omega)
    · rw [sm_mul, sm_mul, ← Int.mul_add, hs]; omega
theorem times_law {g g' : List (List Int)} {n : Nat} {c : Int} (hc : 1 ≤ c) (hm : g.length ≤ 8) (hl : g'.length = g.length) (h1 : ∀ a j, a < g.length → j < n → gain g' a j = c * gain g a j) :
    VV g' n = c * VV g n ∧ (∀ k, k < n → pk g' n k = c * pk g n k) ∧ ∀ i, i < g.length → uu g' n i n = c * uu g n i n := by
  have hV := scale hc (VV_opt hm n)
  have hV' := VV_opt (g := g') (by omega) n
  rw [hl] at hV'
  have e : VV g' n = c * VV g n := opt_uniq hV' (opt_congr (fun a j ha hj => (h1 a j ha hj).symm) hV)
  have hp : ∀ k, k < n → pk g' n k = c * pk g n k := fun k hk => by
    have hW := scale hc (WW_opt hm n k)
    have hW' := WW_opt (g := g') (by omega) n k
    rw [hl] at hW'
    have e2 := opt_uniq hW' (opt_congr (fun a j ha hj => by
      unfold addc
      by_cases hj' : j < n
      · simp only [hj', if_true]; exact (h1 a j ha hj').symm
      · simp only [hj', if_false]; exact (h1 a k ha hk).symm) hW)
    unfold pk
    rw [e2, e, Int.mul_sub]
  refine ⟨e, hp, fun i hi => ?_⟩
  have key : ∀ m, m ≤ n → uu g' n i m = c * uu g n i m := by
    intro m
    induction m with
    | zero => intro _; show (0 : Int) = c * 0; simp
    | succ m ih =>
      intro hmn
      show max' (uu g' n i m) (gain g' i m - pk g' n m) = c * max' (uu g n i m) (gain g i m - pk g n m)
      rw [ih (by omega), h1 i m hi (by omega), hp m (by omega), ← Int.mul_sub]
      unfold max'
      by_cases h : uu g n i m < gain g i m - pk g n m
      · rw [if_pos h, if_pos (Int.mul_lt_mul_of_pos_left h (by omega))]
      · rw [if_neg h]
        have : ¬ c * uu g n i m < c * (gain g i m - pk g n m) := by
          have := Int.mul_le_mul_of_nonneg_left (show gain g i m - pk g n m ≤ uu g n i m by omega) (show 0 ≤ c by omega)
          omega
        rw [if_neg this]
  exact key n (Nat.le_refl _)
/-! ### Turned -/
structure Turn (ρ ρ' : Nat → Nat) (m : Nat) : Prop where
  lt : ∀ i, i < m → ρ i < m
  lt' : ∀ i, i < m → ρ' i < m
  back : ∀ i, i < m → ρ (ρ' i) = i
  forth : ∀ i, i < m → ρ' (ρ i) = i
theorem Turn.inj {ρ ρ' : Nat → Nat} {m : Nat} (h : Turn ρ ρ' m) : Inj ρ m := fun i j hi hj e => by rw [← h.forth i hi, ← h.forth j hj, e]
theorem Turn.symm {ρ ρ' : Nat → Nat} {m : Nat} (h : Turn ρ ρ' m) : Turn ρ' ρ m := ⟨h.lt', h.lt, h.forth, h.back⟩
theorem turn_dual {G G' : Nat → Nat → Int} {m n : Nat} {ρ ρ' σ σ' : Nat → Nat} {u p : Nat → Int} (hρ : Turn ρ ρ' m) (hσ : Turn σ σ' n) (hG : ∀ i j, i < m → j < n → G' i j = G (ρ i) (σ j)) (hd : Dual G m n u p) :
    Dual G' m n (fun i => u (ρ i)) (fun j => p (σ j)) ∧ sm (fun i => u (ρ i)) m + sm (fun j => p (σ j)) n = sm u m + sm p n :=
  ⟨⟨fun i hi => hd.u0 _ (hρ.lt i hi), fun j hj => hd.p0 _ (hσ.lt j hj), fun i j hi hj => by rw [hG i j hi hj]; exact hd.cov _ _ (hρ.lt i hi) (hσ.lt j hj)⟩, by
    rw [perm_sum hρ.inj hρ.lt u hd.u0, perm_sum hσ.inj hσ.lt p hd.p0]⟩
theorem turn_law {g g' : List (List Int)} {n : Nat} {ρ ρ' σ σ' : Nat → Nat} (hm : g.length ≤ 8) (hl : g'.length = g.length) (hρ : Turn ρ ρ' g.length) (hσ : Turn σ σ' n) (hG : ∀ i j, i < g.length → j < n → gain g' i j = gain g (ρ i) (σ j)) :
    VV g' n = VV g n ∧ (∀ k, k < n → pk g' n k = pk g n (σ k)) ∧ ∀ i, i < g.length → uu g' n i n = uu g n (ρ i) n := by
  have hm' : g'.length ≤ 8 := by omega
  have hG' : ∀ i j, i < g.length → j < n → gain g i j = gain g' (ρ' i) (σ' j) := fun i j hi hj => by
    rw [hG _ _ (hρ.lt' i hi) (hσ.lt' j hj), hρ.back i hi, hσ.back j hj]
  have hV := VV_opt hm n
  have hV' := VV_opt hm' n
  rw [hl] at hV'
  obtain ⟨d, s⟩ := proved_dual hm n
  obtain ⟨d', s'⟩ := proved_dual hm' n
  rw [hl] at d' s'
  obtain ⟨t, ts⟩ := turn_dual hρ hσ hG d
  obtain ⟨t', ts'⟩ := turn_dual hρ.symm hσ.symm hG' d'
  have a1 := hV'.ge _ _ t
  have a2 := hV.ge _ _ t'
  have e : VV g' n = VV g n := by omega
  have hp : ∀ k, k < n → pk g' n k = pk g n (σ k) := fun k hk => by
    have b1 := pk_least (g := g') hm' hk (by rw [hl]; exact t) (by rw [hl]; omega)
    have b2 := pk_least hm (hσ.lt k hk) t' (by omega)
    have b3 : pk g' n (σ' (σ k)) = pk g' n k := by rw [hσ.forth k hk]
    omega
  refine ⟨e, hp, fun i hi => ?_⟩
  apply Int.le_antisymm
  · refine uu_least (uu_nonneg g n (ρ i) n) n fun k hk => ?_
    rw [hG i k hi hk, hp k hk]
    exact uu_cover g n (ρ i) n (σ k) (hσ.lt k hk)
  · refine uu_least (uu_nonneg g' n i n) n fun k hk => ?_
    have h1 := uu_cover g' n i n (σ' k) (hσ.lt' k hk)
    rw [hG i (σ' k) hi (hσ.lt' k hk), hp (σ' k) (hσ.lt' k hk), hσ.back k hk] at h1
    exact h1
/-! ### More, fewer, other gains -/
theorem more_law {g g' : List (List Int)} {n : Nat} {top : Int} (hm : g'.length ≤ 8) (hl : g'.length = g.length + 1) (h1 : ∀ a j, a < g.length → j < n → gain g' a j = gain g a j) (h0 : 0 ≤ top) (h2 : ∀ j, j < n → gain g' g.length j ≤ top) :
    VV g n ≤ VV g' n ∧ VV g' n ≤ VV g n + top := by
  have hV := VV_opt (show g.length ≤ 8 by omega) n
  have hV' := VV_opt hm n
  rw [hl] at hV'
  constructor
  · have := opt_le (c := 0) hV' hV fun u p hd => ⟨u, p, ⟨fun i hi => hd.u0 i (by omega), hd.p0, fun a j ha hj => by rw [← h1 a j ha hj]; exact hd.cov a j (by omega) hj⟩, by
      have := hd.u0 g.length (by omega)
      simp only [sm]; omega⟩
    omega
  · refine opt_le hV hV' fun u p hd => ⟨fun i => if i < g.length then u i else top, p, ⟨fun i hi => ?_, hd.p0, fun a j ha hj => ?_⟩, ?_⟩
    · split
      · rename_i h; exact hd.u0 i h
      · exact h0
    · by_cases e : a < g.length
      · rw [if_pos e, h1 a j e hj]; exact hd.cov a j e hj
      · obtain rfl : a = g.length := by omega
        rw [if_neg e]
        have := h2 j hj
        have := hd.p0 j hj
        omega
    · simp only [sm]
      rw [sm_congr (g := u) g.length (fun i hi => by simp [hi])]
      simp; omega
theorem less_law {g g' : List (List Int)} {n k : Nat} (hm : g.length ≤ 8) (hl : g'.length = g.length) (hk : k < n + 1) (h1 : ∀ a j, a < g.length → j < n → gain g' a j = gain g a (if j < k then j else j + 1)) : VV g' n ≤ VV g (n + 1) := by
  have hV := VV_opt hm (n + 1)
  have hV' := VV_opt (g := g') (by omega) n
  rw [hl] at hV'
  have key : ∀ (p : Nat → Int), (∀ j, j < n + 1 → 0 ≤ p j) → sm (fun j => p (if j < k then j else j + 1)) n ≤ sm p (n + 1) := by
    intro p hp
    have a := inj_sum n (fun j => if j < k then j else j + 1) p (n + 1) (fun x y hx hy e => by
      dsimp only at e
      split at e <;> split at e <;> omega) hp
    rw [sm_congr (g := fun j => p (if j < k then j else j + 1)) n (fun j hj => by
      have : (if j < k then j else j + 1) < n + 1 := by split <;> omega
      simp only [this, if_true])] at a
    exact a
  have := opt_le (c := 0) hV hV' fun u p hd => ⟨u, fun j => p (if j < k then j else j + 1), ⟨hd.u0, fun j hj => hd.p0 _ (by split <;> omega), fun a j ha hj => by rw [h1 a j ha hj]; exact hd.cov a _ ha (by split <;> omega)⟩, by
    have := key p hd.p0; omega⟩
  omega
theorem low_law {g g' : List (List Int)} {n : Nat} (hm : g.length ≤ 8) (hl : g'.length = g.length) (h1 : ∀ a j, a < g.length → j < n → gain g' a j = gain g a j ∨ (gain g' a j < 0 ∧ gain g a j < 0)) : VV g' n = VV g n := by
  have hV := VV_opt hm n
  have hV' := VV_opt (g := g') (by omega) n
  rw [hl] at hV'
  have a := opt_le (c := 0) hV hV' fun u p hd => ⟨u, p, ⟨hd.u0, hd.p0, fun a j ha hj => by
    have := hd.cov a j ha hj; have := hd.u0 a ha; have := hd.p0 j hj
    rcases h1 a j ha hj with h | h <;> omega⟩, by omega⟩
  have b := opt_le (c := 0) hV' hV fun u p hd => ⟨u, p, ⟨hd.u0, hd.p0, fun a j ha hj => by
    have := hd.cov a j ha hj; have := hd.u0 a ha; have := hd.p0 j hj
    rcases h1 a j ha hj with h | h <;> omega⟩, by omega⟩
  omega
theorem raise_law {g g' : List (List Int)} {n i k : Nat} {x y : Int} (hm : g.length ≤ 8) (hl : g'.length = g.length) (hi : i < g.length) (hk : k < n) (h1 : ∀ a j, a < g.length → j < n → ¬ (a = i ∧ j = k) → gain g' a j = gain g a j) (hx : gain g i k = x) (hy : gain g' i k = y) (hxy : x ≤ y) :
    VV g n ≤ VV g' n ∧ VV g' n ≤ VV g n + (max' 0 y - max' 0 x) := by
  have hV := VV_opt hm n
  have hV' := VV_opt (g := g') (by omega) n
  rw [hl] at hV'
  have hmx : 0 ≤ max' 0 y - max' 0 x ∧ y ≤ max' 0 y ∧ (0 ≤ x → max' 0 x = x) ∧ (x < 0 → max' 0 x = 0) := by unfold max'; split <;> split <;> omega
  constructor
  · have := opt_le (c := 0) hV' hV fun u p hd => ⟨u, p, ⟨hd.u0, hd.p0, fun a j ha hj => by
      have := hd.cov a j ha hj
      by_cases e : a = i ∧ j = k
      · obtain ⟨rfl, rfl⟩ := e; omega
      · rw [← h1 a j ha hj e]; exact this⟩, by omega⟩
    omega
  · refine opt_le hV hV' fun u p hd => ⟨fun a => if a = i then u i + (max' 0 y - max' 0 x) else u a, p, ⟨fun a ha => ?_, hd.p0, fun a j ha hj => ?_⟩, ?_⟩
    · have := hd.u0 a ha
      by_cases e : a = i
      · subst e; simp only [if_true]; omega
      · simp only [e, if_false]; exact this
    · have h2 := hd.cov a j ha hj
      have h3 := hd.u0 a ha
      have h4 := hd.p0 j hj
      by_cases e : a = i
      · subst e
        simp only [if_true]
        by_cases e2 : j = k
        · subst e2
          rw [hx] at h2
          rw [hy]
          by_cases e3 : 0 ≤ x
          · have := hmx.2.2.1 e3; omega
          · have := hmx.2.2.2 (by omega); omega
        · rw [h1 a j ha hj (fun h => e2 h.2)]; omega
      · simp only [e, if_false]
        rw [h1 a j ha hj (fun h => e h.1)]; exact h2
    · rw [sm_repl u hi]; omega
end Go.Proofs.Ytknkdnohcepmdaa.Sal
