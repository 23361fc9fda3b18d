/- Plain: counts, Hall's theorem (by Rado's proof), the duality of the best matching. -/
namespace Go.Proofs.Ytkhnohnkcdcajaa.Sal
set_option linter.all false

/-! ### Counts -/
def cnt (s : Nat → Bool) : Nat → Nat
  | 0 => 0
  | n + 1 => cnt s n + (if s n = true then 1 else 0)
theorem cnt_le {s t : Nat → Bool} : ∀ (n : Nat), (∀ i, i < n → s i = true → t i = true) → cnt s n ≤ cnt t n
  | 0, _ => Nat.le_refl _
  | n + 1, h => by
    have h1 := cnt_le n (fun i hi => h i (by omega))
    have h2 := h n (by omega)
    unfold cnt
    by_cases hs : s n = true
    · simp [hs, h2 hs]; omega
    · simp [hs]; omega
theorem cnt_congr {s t : Nat → Bool} (n : Nat) (h : ∀ i, i < n → s i = t i) : cnt s n = cnt t n :=
  Nat.le_antisymm (cnt_le n fun i hi hs => by rw [← h i hi]; exact hs) (cnt_le n fun i hi hs => by rw [h i hi]; exact hs)
theorem cnt_modular (s t : Nat → Bool) : ∀ n, cnt (fun i => s i || t i) n + cnt (fun i => s i && t i) n = cnt s n + cnt t n
  | 0 => rfl
  | n + 1 => by
    have := cnt_modular s t n
    unfold cnt
    cases s n <;> cases t n <;> simp <;> omega
theorem cnt_bound (s : Nat → Bool) : ∀ n, cnt s n ≤ n
  | 0 => Nat.le_refl _
  | n + 1 => by have := cnt_bound s n; unfold cnt; split <;> omega
theorem cnt_drop {s : Nat → Bool} {i : Nat} : ∀ {n : Nat}, i < n → s i = true → cnt (fun j => s j && !(j == i)) n + 1 = cnt s n
  | n + 1, hi, hs => by
    by_cases h : i = n
    · subst h
      have e : cnt (fun j => s j && !(j == i)) i = cnt s i := cnt_congr i fun j hj => by
        have : (j == i) = false := by simp; omega
        simp [this]
      simp [cnt, hs, e]
    · have ih := cnt_drop (n := n) (by omega) hs
      have : (n == i) = false := by simp; omega
      simp only [cnt, this]
      simp
      omega
theorem cnt_pos {s : Nat → Bool} : ∀ {n : Nat}, 0 < cnt s n → ∃ i, i < n ∧ s i = true
  | n + 1, h => by
    by_cases hs : s n = true
    · exact ⟨n, by omega, hs⟩
    · simp [cnt, hs] at h
      obtain ⟨i, hi, h2⟩ := cnt_pos h
      exact ⟨i, by omega, h2⟩
theorem cnt_zero {s : Nat → Bool} : ∀ (n : Nat), (∀ i, i < n → s i = false) → cnt s n = 0
  | 0, _ => rfl
  | n + 1, h => by
    have := cnt_zero n (fun i hi => h i (by omega))
    have h2 := h n (by omega)
    simp [cnt, h2, this]
/-! ### Hall's theorem -/
noncomputable def nb (R : Nat → Nat → Bool) (N : Nat) (s : Nat → Bool) (k : Nat) : Bool := @decide (∃ i, i < N ∧ s i = true ∧ R i k = true) (Classical.propDecidable _)
theorem nb_iff {R : Nat → Nat → Bool} {N : Nat} {s : Nat → Bool} {k : Nat} : nb R N s k = true ↔ ∃ i, i < N ∧ s i = true ∧ R i k = true := by
  unfold nb; exact @decide_eq_true_iff _ (Classical.propDecidable _)
def Hall (R : Nat → Nat → Bool) (N M : Nat) : Prop := ∀ s, cnt s N ≤ cnt (nb R N s) M
def edges (R : Nat → Nat → Bool) (M : Nat) : Nat → Nat
  | 0 => 0
  | n + 1 => edges R M n + cnt (R n) M
def cut (R : Nat → Nat → Bool) (i k : Nat) : Nat → Nat → Bool := fun i' k' => R i' k' && !(i' == i && k' == k)
theorem cut_other {R : Nat → Nat → Bool} {i k i' : Nat} (h : i' ≠ i) : cut R i k i' = R i' := by
  funext k'; have : (i' == i) = false := by simp [h]
  simp [cut, this]
theorem cut_same {R : Nat → Nat → Bool} {i k : Nat} : cut R i k i = fun k' => R i k' && !(k' == k) := by
  funext k'; simp [cut]
theorem edges_cut {R : Nat → Nat → Bool} {M i k : Nat} (hk : k < M) (hR : R i k = true) : ∀ {N : Nat}, i < N → edges (cut R i k) M N < edges R M N
  | N + 1, hi => by
    have same : ∀ N', N' ≤ i → edges (cut R i k) M N' = edges R M N' := by
      intro N' hN'
      induction N' with
      | zero => rfl
      | succ n ih =>
        simp only [edges]
        rw [ih (by omega), cut_other (by omega)]
    by_cases h : i = N
    · subst h
      simp only [edges]
      rw [same i (Nat.le_refl _), cut_same]
      have := cnt_drop (s := R i) hk hR
      omega
    · have ih := edges_cut (N := N) hk hR (by omega)
      simp only [edges]
      rw [cut_other (by omega)]
      omega
theorem cut_hall {R : Nat → Nat → Bool} {N M i k1 k2 : Nat} (hH : Hall R N M) (hi : i < N) (hne : k1 ≠ k2) (h1 : ¬ Hall (cut R i k1) N M) (h2 : ¬ Hall (cut R i k2) N M) : False := by
  have pick : ∀ k, ¬ Hall (cut R i k) N M → ∃ s, cnt (nb (cut R i k) N s) M < cnt s N ∧ s i = true := by
    intro k hk
    unfold Hall at hk
    obtain ⟨s, hs⟩ := Classical.not_forall.1 hk
    refine ⟨s, by omega, ?_⟩
    cases hsi : s i with
    | true => rfl
    | false =>
      exfalso
      apply hs
      refine Nat.le_trans (hH s) (cnt_le M fun x _ hx => ?_)
      rw [nb_iff] at hx ⊢
      obtain ⟨j, hj, hsj, hR⟩ := hx
      refine ⟨j, hj, hsj, ?_⟩
      rw [cut_other (fun e => by rw [e, hsi] at hsj; cases hsj)]
      exact hR
  obtain ⟨s1, c1, i1⟩ := pick k1 h1
  obtain ⟨s2, c2, i2⟩ := pick k2 h2
  have a1 := hH (fun j => s1 j || s2 j)
  have a2 := hH (fun j => (s1 j && s2 j) && !(j == i))
  have m1 := cnt_modular s1 s2 N
  have m2 := cnt_modular (nb (cut R i k1) N s1) (nb (cut R i k2) N s2) M
  have d := cnt_drop (s := fun j => s1 j && s2 j) hi (by simp [i1, i2])
  have b1 : cnt (nb R N fun j => s1 j || s2 j) M ≤ cnt (fun x => nb (cut R i k1) N s1 x || nb (cut R i k2) N s2 x) M := by
    refine cnt_le M fun x _ hx => ?_
    obtain ⟨j, hj, hsj, hR⟩ := nb_iff.1 hx
    simp only [Bool.or_eq_true] at hsj ⊢
    by_cases hji : j = i
    · subst hji
      by_cases hx1 : x = k1
      · right
        refine nb_iff.2 ⟨j, hj, i2, ?_⟩
        have : (x == k2) = false := by simp; omega
        simp [cut, hR, this]
      · left
        refine nb_iff.2 ⟨j, hj, i1, ?_⟩
        have : (x == k1) = false := by simp; omega
        simp [cut, hR, this]
    · rcases hsj with h | h
      · exact .inl (nb_iff.2 ⟨j, hj, h, by rw [cut_other hji]; exact hR⟩)
      · exact .inr (nb_iff.2 ⟨j, hj, h, by rw [cut_other hji]; exact hR⟩)
  have b2 : cnt (nb R N fun j => (s1 j && s2 j) && !(j == i)) M ≤ cnt (fun x => nb (cut R i k1) N s1 x && nb (cut R i k2) N s2 x) M := by
    refine cnt_le M fun x _ hx => ?_
    obtain ⟨j, hj, hsj, hR⟩ := nb_iff.1 hx
    simp only [Bool.and_eq_true, Bool.not_eq_true', beq_eq_false_iff_ne] at hsj ⊢
    exact ⟨nb_iff.2 ⟨j, hj, hsj.1.1, by rw [cut_other hsj.2]; exact hR⟩, nb_iff.2 ⟨j, hj, hsj.1.2, by rw [cut_other hsj.2]; exact hR⟩⟩
  omega
theorem cnt_one (i n : Nat) (h : i < n) : cnt (fun j => j == i) n = 1 := by
  have h1 := cnt_drop (s := fun j => j == i) h (by simp)
  have h2 : cnt (fun j => (j == i) && !(j == i)) n = 0 := cnt_zero n fun j _ => by simp
  omega
theorem hall_match : ∀ (e : Nat) (R : Nat → Nat → Bool) (N M : Nat), edges R M N = e → Hall R N M → ∃ f : Nat → Nat, (∀ i, i < N → f i < M ∧ R i (f i) = true) ∧ ∀ i j, i < N → j < N → f i = f j → i = j := by
  intro e
  induction e using Nat.strongRecOn with
  | _ e ih =>
    intro R N M he hH
    by_cases hex : ∃ i k1 k2, i < N ∧ k1 < M ∧ k2 < M ∧ k1 ≠ k2 ∧ R i k1 = true ∧ R i k2 = true
    · obtain ⟨i, k1, k2, hi, h1, h2, hne, r1, r2⟩ := hex
      have step : ∀ k, k < M → R i k = true → Hall (cut R i k) N M → ∃ f : Nat → Nat, (∀ i, i < N → f i < M ∧ R i (f i) = true) ∧ ∀ i j, i < N → j < N → f i = f j → i = j := by
        intro k hk hR hc
        obtain ⟨f, hf, hinj⟩ := ih _ (by have := edges_cut hk hR hi; omega) (cut R i k) N M rfl hc
        exact ⟨f, fun j hj => ⟨(hf j hj).1, by have := (hf j hj).2; simp only [cut, Bool.and_eq_true] at this; exact this.1⟩, hinj⟩
      by_cases c1 : Hall (cut R i k1) N M
      · exact step k1 h1 r1 c1
      · by_cases c2 : Hall (cut R i k2) N M
        · exact step k2 h2 r2 c2
        · exact absurd (cut_hall hH hi hne c1 c2) id
    · have one : ∀ i, i < N → ∃ k, k < M ∧ R i k = true := by
        intro i hi
        have := hH (fun j => j == i)
        rw [cnt_one i N hi] at this
        obtain ⟨k, hk, hn⟩ := cnt_pos this
        obtain ⟨j, _, hj, hR⟩ := nb_iff.1 hn
        simp at hj; subst hj
        exact ⟨k, hk, hR⟩
      have hch : ∀ i, ∃ k, i < N → k < M ∧ R i k = true := fun i => by
        by_cases hi : i < N
        · obtain ⟨k, h⟩ := one i hi; exact ⟨k, fun _ => h⟩
        · exact ⟨0, fun h => absurd h hi⟩
      refine ⟨fun i => Classical.choose (hch i), fun i hi => Classical.choose_spec (hch i) hi, fun i j hi hj hij => ?_⟩
      have hi2 := Classical.choose_spec (hch i) hi
      have hj2 := Classical.choose_spec (hch j) hj
      dsimp only at hij
      rw [← hij] at hj2
      generalize Classical.choose (hch i) = k at *
      apply Classical.byContradiction
      intro hne
      have hh := hH (fun x => (x == i) || (x == j))
      have m := cnt_modular (fun x => x == i) (fun x => x == j) N
      rw [cnt_one i N hi, cnt_one j N hj] at m
      have z : cnt (fun x => (x == i) && (x == j)) N = 0 := cnt_zero N fun x _ => by
        by_cases hx : x = i
        · have : (x == j) = false := by simp; omega
          simp [this]
        · have : (x == i) = false := by simp [hx]
          simp [this]
      have up : cnt (nb R N fun x => (x == i) || (x == j)) M ≤ cnt (fun x => x == k) M := by
        refine cnt_le M fun x hx hn => ?_
        obtain ⟨y, hy, hyy, hR⟩ := nb_iff.1 hn
        simp only [Bool.or_eq_true, beq_iff_eq] at hyy
        simp only [beq_iff_eq]
        apply Classical.byContradiction
        intro hxk
        refine hex ⟨y, x, k, hy, hx, hi2.1, hxk, hR, ?_⟩
        rcases hyy with h | h
        · rw [h]; exact hi2.2
        · rw [h]; exact hj2.2
      rw [cnt_one k M hi2.1] at up
      omega

/-! ### Sums -/
def sm (f : Nat → Int) : Nat → Int
  | 0 => 0
  | n + 1 => sm f n + f n
theorem sm_congr {f g : Nat → Int} : ∀ (n : Nat), (∀ i, i < n → f i = g i) → sm f n = sm g n
  | 0, _ => rfl
  | n + 1, h => by simp only [sm]; rw [sm_congr n (fun i hi => h i (by omega)), h n (by omega)]
theorem sm_le {f g : Nat → Int} : ∀ (n : Nat), (∀ i, i < n → f i ≤ g i) → sm f n ≤ sm g n
  | 0, _ => Int.le_refl _
  | n + 1, h => by
    have h1 := sm_le n (fun i hi => h i (by omega))
    have h2 := h n (by omega)
    simp only [sm]; omega
theorem sm_add (f g : Nat → Int) : ∀ n, sm (fun i => f i + g i) n = sm f n + sm g n
  | 0 => rfl
  | n + 1 => by simp only [sm]; rw [sm_add f g n]; omega
theorem sm_const (c : Int) : ∀ n, sm (fun _ => c) n = c * (n : Int)
  | 0 => by simp [sm]
  | n + 1 => by
    simp only [sm]; rw [sm_const c n]
    have : c * ((n + 1 : Nat) : Int) = c * n + c := by rw [Int.natCast_add, Int.mul_add]; simp
    omega
theorem sm_nonneg {f : Nat → Int} (n : Nat) (h : ∀ i, i < n → 0 ≤ f i) : 0 ≤ sm f n := by
  have := sm_le (f := fun _ => 0) n h
  rw [sm_const] at this; omega
theorem sm_sub (f g : Nat → Int) (n : Nat) : sm (fun i => f i - g i) n = sm f n - sm g n := by
  have := sm_add (fun i => f i - g i) g n
  rw [sm_congr (g := f) n (fun i _ => by omega)] at this
  omega
theorem sm_cnt (s : Nat → Bool) : ∀ n, sm (fun i => if s i = true then 1 else 0) n = (cnt s n : Int)
  | 0 => rfl
  | n + 1 => by simp only [sm, cnt]; rw [sm_cnt s n]; split <;> omega
theorem sm_mem_le {f : Nat → Int} {n i : Nat} (hi : i < n) (h : ∀ i, i < n → 0 ≤ f i) : f i ≤ sm f n := by
  induction n with
  | zero => omega
  | succ n ih =>
    simp only [sm]
    by_cases hin : i = n
    · subst hin
      have := sm_nonneg i (fun j hj => h j (by omega)); omega
    · have := ih (by omega) (fun j hj => h j (by omega))
      have := h n (by omega); omega
/-- The sum with one place let out. -/
theorem sm_out (f : Nat → Int) {i : Nat} : ∀ {n : Nat}, i < n → sm (fun j => if j = i then 0 else f j) n + f i = sm f n
  | n + 1, hi => by
    by_cases h : i = n
    · subst h
      have e : sm (fun j => if j = i then 0 else f j) i = sm f i := sm_congr i fun j hj => by
        have : ¬ j = i := by omega
        simp [this]
      simp only [sm, e]; simp
    · have ih := sm_out f (n := n) (i := i) (by omega)
      have : ¬ n = i := by omega
      simp only [sm, this, if_false]; omega
theorem sm_mono_len {f : Nat → Int} {m n : Nat} (h : m ≤ n) (h0 : ∀ i, i < n → 0 ≤ f i) : sm f m ≤ sm f n := by
  induction n with
  | zero => obtain rfl : m = 0 := by omega
            exact Int.le_refl _
  | succ n ih =>
    by_cases hm : m = n + 1
    · subst hm; exact Int.le_refl _
    · have := ih (by omega) (fun i hi => h0 i (by omega))
      have := h0 n (by omega)
      simp only [sm]; omega

/-! ### Matchings of columns to rows; duals -/
def Inj (τ : Nat → Nat) (L : Nat) : Prop := ∀ j k, j < L → k < L → τ j = τ k → j = k
theorem inj_sum : ∀ (L : Nat) (τ : Nat → Nat) (u : Nat → Int) (m : Nat), Inj τ L → (∀ i, i < m → 0 ≤ u i) → sm (fun j => if τ j < m then u (τ j) else 0) L ≤ sm u m
  | 0, _, u, m, _, h0 => sm_nonneg m h0
  | L + 1, τ, u, m, hi, h0 => by
    simp only [sm]
    by_cases hm : τ L < m
    · have ih := inj_sum L τ (fun j => if j = τ L then 0 else u j) m (fun j k hj hk e => hi j k (by omega) (by omega) e) (fun i him => by
        by_cases h : i = τ L
        · simp [h]
        · simp [h]; exact h0 i him)
      have e : sm (fun j => if τ j < m then (fun j => if j = τ L then 0 else u j) (τ j) else 0) L = sm (fun j => if τ j < m then u (τ j) else 0) L := sm_congr L fun j hj => by
        have : ¬ τ j = τ L := fun e => by have := hi j L (by omega) (by omega) e; omega
        simp [this]
      rw [e] at ih
      have o := sm_out u hm
      simp only [hm, if_true]; omega
    · have ih := inj_sum L τ u m (fun j k hj hk e => hi j k (by omega) (by omega) e) h0
      simp only [hm, if_false]; omega
/-- A map of a square onto itself keeps a sum. -/
theorem perm_sum {N : Nat} {τ : Nat → Nat} (hi : Inj τ N) (hr : ∀ j, j < N → τ j < N) (u : Nat → Int) (h0 : ∀ i, i < N → 0 ≤ u i) : sm (fun j => u (τ j)) N = sm u N := by
  have a := inj_sum N τ u N hi h0
  rw [sm_congr (g := fun j => u (τ j)) N (fun j hj => by simp [hr j hj])] at a
  have b := inj_sum N τ (fun i => sm u N - u i) N hi (fun i hi' => by have := sm_mem_le hi' h0; omega)
  rw [sm_congr (g := fun j => sm u N - u (τ j)) N (fun j hj => by simp [hr j hj])] at b
  rw [sm_sub (fun _ => sm u N) (fun j => u (τ j)) N, sm_sub (fun _ => sm u N) u N] at b
  omega
structure Dual (G : Nat → Nat → Int) (m L : Nat) (u p : Nat → Int) : Prop where
  u0 : ∀ i, i < m → 0 ≤ u i
  p0 : ∀ j, j < L → 0 ≤ p j
  cov : ∀ i j, i < m → j < L → G i j ≤ u i + p j
/-- What a map of columns to rows gains: where the row is none, or nothing is gained, 0. -/
def wt (G : Nat → Nat → Int) (m : Nat) (τ : Nat → Nat) (j : Nat) : Int := if τ j < m then (if 0 ≤ G (τ j) j then G (τ j) j else 0) else 0
def val (G : Nat → Nat → Int) (m L : Nat) (τ : Nat → Nat) : Int := sm (wt G m τ) L
theorem weak {G : Nat → Nat → Int} {m L : Nat} {u p : Nat → Int} {τ : Nat → Nat} (hi : Inj τ L) (hd : Dual G m L u p) : val G m L τ ≤ sm u m + sm p L := by
  have a := inj_sum L τ u m hi hd.u0
  have b : val G m L τ ≤ sm (fun j => (if τ j < m then u (τ j) else 0) + p j) L := sm_le L fun j hj => by
    unfold wt
    have := hd.p0 j hj
    by_cases h : τ j < m
    · have := hd.cov (τ j) j h hj
      have := hd.u0 (τ j) h
      simp only [h, if_true]
      split <;> omega
    · simp only [h, if_false]; omega
  rw [sm_add] at b
  omega
/-- The square: from any numbers that cover, by lowering, to numbers with a map along which they are just reached. -/
theorem square {N : Nat} {G : Nat → Nat → Int} (hG : ∀ i j, i < N → j < N → 0 ≤ G i j) : ∀ (s : Nat) (u p : Nat → Int), Dual G N N u p → sm u N + sm p N = (s : Int) →
    ∃ (u' p' : Nat → Int) (τ : Nat → Nat), Dual G N N u' p' ∧ Inj τ N ∧ ∀ j, j < N → τ j < N ∧ u' (τ j) + p' j = G (τ j) j := by
  intro s
  induction s using Nat.strongRecOn with
  | _ s ih =>
    intro u p hd hs
    by_cases hH : Hall (fun j i => decide (u i + p j = G i j)) N N
    · obtain ⟨τ, hτ, hinj⟩ := hall_match _ _ _ _ rfl hH
      exact ⟨u, p, τ, hd, fun j k hj hk e => hinj j k hj hk e, fun j hj => ⟨(hτ j hj).1, of_decide_eq_true (hτ j hj).2⟩⟩
    · unfold Hall at hH
      obtain ⟨S, hS⟩ := Classical.not_forall.1 hH
      obtain ⟨T, hT⟩ : ∃ T, T = nb (fun j i => decide (u i + p j = G i j)) N S := ⟨_, rfl⟩
      rw [← hT] at hS
      -- columns of S one down, rows of T one up
      have cov' : ∀ i j, i < N → j < N → G i j ≤ (u i + (if T i = true then 1 else 0)) + (p j - (if S j = true then 1 else 0)) := by
        intro i j hi hj
        have h1 := hd.cov i j hi hj
        by_cases hSj : S j = true
        · by_cases hTi : T i = true
          · simp only [hSj, hTi, if_true]; omega
          · have hne : ¬ (u i + p j = G i j) := fun e => hTi (by rw [hT]; exact nb_iff.2 ⟨j, hj, hSj, decide_eq_true e⟩)
            simp only [hSj, hTi, if_true]; simp; omega
        · simp only [hSj]; split <;> simp <;> omega
      have e1 := sm_add u (fun i => if T i = true then 1 else 0) N
      have e2 := sm_sub p (fun j => if S j = true then 1 else 0) N
      rw [sm_cnt] at e1 e2
      have u0' : ∀ i, i < N → 0 ≤ u i + (if T i = true then 1 else 0) := fun i hi => by have := hd.u0 i hi; split <;> omega
      by_cases hneg : ∃ j, j < N ∧ p j - (if S j = true then 1 else 0) < 0
      · obtain ⟨j0, hj0, hlt⟩ := hneg
        have hp0 := hd.p0 j0 hj0
        have u1 : ∀ i, i < N → 1 ≤ u i + (if T i = true then 1 else 0) := by
          intro i hi
          have h1 := cov' i j0 hi hj0
          have h2 := hG i j0 hi hj0
          omega
        have d1 : Dual G N N (fun i => (u i + (if T i = true then 1 else 0)) - 1) (fun j => (p j - (if S j = true then 1 else 0)) + 1) := by
          refine ⟨fun i hi => ?_, fun j hj => ?_, fun i j hi hj => ?_⟩
          · have := u1 i hi; omega
          · have := hd.p0 j hj; split <;> omega
          · have := cov' i j hi hj; omega
        have e3 := sm_sub (fun i => u i + (if T i = true then 1 else 0)) (fun _ => 1) N
        have e4 := sm_add (fun j => p j - (if S j = true then 1 else 0)) (fun _ => 1) N
        have hsum : sm (fun i => (u i + (if T i = true then 1 else 0)) - 1) N + sm (fun j => (p j - (if S j = true then 1 else 0)) + 1) N = (s : Int) + cnt T N - cnt S N := by omega
        have hnn : 0 ≤ sm (fun i => (u i + (if T i = true then 1 else 0)) - 1) N + sm (fun j => (p j - (if S j = true then 1 else 0)) + 1) N := Int.add_nonneg (sm_nonneg N d1.u0) (sm_nonneg N d1.p0)
        exact ih (s + cnt T N - cnt S N) (by omega) _ _ d1 (by omega)
      · have p0' : ∀ j, j < N → 0 ≤ p j - (if S j = true then 1 else 0) := fun j hj => by
          apply Classical.byContradiction
          intro h
          exact hneg ⟨j, hj, by omega⟩
        have d1 : Dual G N N (fun i => u i + (if T i = true then 1 else 0)) (fun j => p j - (if S j = true then 1 else 0)) := ⟨u0', p0', cov'⟩
        have hnn : 0 ≤ sm (fun i => u i + (if T i = true then 1 else 0)) N + sm (fun j => p j - (if S j = true then 1 else 0)) N := Int.add_nonneg (sm_nonneg N d1.u0) (sm_nonneg N d1.p0)
        exact ih (s + cnt T N - cnt S N) (by omega) _ _ d1 (by omega)
theorem max_ex (G : Nat → Nat → Int) (m L : Nat) : ∃ c : Int, 0 ≤ c ∧ ∀ i j, i < m → j < L → G i j ≤ c := by
  induction m with
  | zero => exact ⟨0, Int.le_refl _, fun i j h => absurd h (Nat.not_lt_zero _)⟩
  | succ m ih =>
    obtain ⟨c, hc, h⟩ := ih
    have row : ∀ L, ∃ c' : Int, c ≤ c' ∧ ∀ j, j < L → G m j ≤ c' := by
      intro L
      induction L with
      | zero => exact ⟨c, Int.le_refl _, fun j h => absurd h (Nat.not_lt_zero _)⟩
      | succ L ih2 =>
        obtain ⟨c', h1, h2⟩ := ih2
        by_cases hL : G m L ≤ c'
        · exact ⟨c', h1, fun j hj => by
            by_cases e : j = L
            · rw [e]; exact hL
            · exact h2 j (by omega)⟩
        · exact ⟨G m L, by omega, fun j hj => by
            by_cases e : j = L
            · rw [e]; exact Int.le_refl _
            · have := h2 j (by omega); omega⟩
    obtain ⟨c', h1, h2⟩ := row L
    exact ⟨c', by omega, fun i j hi hj => by
      by_cases e : i = m
      · rw [e]; exact h2 j hj
      · have := h i j (by omega) hj; omega⟩
/-- THE DUALITY: some map of columns to rows gains just what some numbers that cover all are together. -/
theorem strong (G : Nat → Nat → Int) (m L : Nat) : ∃ (u p : Nat → Int) (τ : Nat → Nat), Dual G m L u p ∧ Inj τ L ∧ val G m L τ = sm u m + sm p L := by
  obtain ⟨c, hc, hmax⟩ := max_ex G m L
  let H : Nat → Nat → Int := fun i j => if i < m ∧ j < L ∧ 0 ≤ G i j then G i j else 0
  have hH : ∀ i j, i < m + L → j < m + L → 0 ≤ H i j := fun i j _ _ => by
    show 0 ≤ (if i < m ∧ j < L ∧ 0 ≤ G i j then G i j else 0)
    split
    · rename_i h; exact h.2.2
    · exact Int.le_refl _
  have d0 : Dual H (m + L) (m + L) (fun _ => c) (fun _ => 0) := ⟨fun _ _ => hc, fun _ _ => Int.le_refl _, fun i j _ _ => by
    show (if i < m ∧ j < L ∧ 0 ≤ G i j then G i j else 0) ≤ c + 0
    split
    · rename_i h; have := hmax i j h.1 h.2.1; omega
    · omega⟩
  have hnn := Int.add_nonneg (sm_nonneg (m + L) d0.u0) (sm_nonneg (m + L) d0.p0)
  obtain ⟨u, p, τ, hd, hinj, ht⟩ := square hH (sm (fun _ => c) (m + L) + sm (fun _ => 0) (m + L)).toNat _ _ d0 (by omega)
  have dd : Dual G m L u p := ⟨fun i hi => hd.u0 i (by omega), fun j hj => hd.p0 j (by omega), fun i j hi hj => by
    have h1 := hd.cov i j (by omega) (by omega)
    have hu := hd.u0 i (by omega)
    have hp := hd.p0 j (by omega)
    by_cases h0 : 0 ≤ G i j
    · have e : H i j = G i j := if_pos ⟨hi, hj, h0⟩
      rw [e] at h1; exact h1
    · omega⟩
  have hinjL : Inj τ L := fun j k hj hk e => hinj j k (by omega) (by omega) e
  refine ⟨u, p, τ, dd, hinjL, ?_⟩
  have a := weak hinjL dd
  have b1 : sm (fun j => H (τ j) j) (m + L) = sm (fun j => u (τ j) + p j) (m + L) := sm_congr _ fun j hj => (ht j hj).2.symm
  rw [sm_add, perm_sum hinj (fun j hj => (ht j hj).1) u hd.u0] at b1
  have b2 : ∀ n, n ≤ m → sm (fun j => H (τ j) j) (L + n) = val G m L τ := by
    intro n
    induction n with
    | zero =>
      intro _
      refine sm_congr L fun j hj => ?_
      show (if τ j < m ∧ j < L ∧ 0 ≤ G (τ j) j then G (τ j) j else 0) = if τ j < m then (if 0 ≤ G (τ j) j then G (τ j) j else 0) else 0
      by_cases h1 : τ j < m <;> by_cases h2 : 0 ≤ G (τ j) j <;> simp [h1, h2, hj]
    | succ n ihn =>
      intro hn
      show sm (fun j => H (τ j) j) (L + n) + H (τ (L + n)) (L + n) = _
      rw [ihn (by omega)]
      have : H (τ (L + n)) (L + n) = 0 := if_neg (fun h => by omega)
      omega
  have b3 := b2 m (Nat.le_refl _)
  rw [Nat.add_comm L m] at b3
  have c1 := sm_mono_len (f := u) (show m ≤ m + L by omega) hd.u0
  have c2 := sm_mono_len (f := p) (show L ≤ m + L by omega) hd.p0
  omega
#print axioms strong
end Go.Proofs.Ytkhnohnkcdcajaa.Sal
