/- Plain: the matching of as many as can be: how many it has (Hall, Ore), and who. -/
import Derived.Test.YtkhnohnkcdcajaaGM1
namespace Go.Proofs.Ytkhnohnkcdcajaa.Sal
set_option linter.all false

theorem cnt_inj {s : Nat → Bool} {n : Nat} (f : Nat → Nat) : ∀ (m : Nat) (t : Nat → Bool), (∀ i, i < m → s i = true → f i < n ∧ t (f i) = true) → (∀ i j, i < m → j < m → s i = true → s j = true → f i = f j → i = j) → cnt s m ≤ cnt t n
  | 0, t, _, _ => Nat.zero_le _
  | m + 1, t, h, hi => by
    cases hs : s m with
    | false =>
      have := cnt_inj f m t (fun i hi' => h i (by omega)) (fun i j h1 h2 => hi i j (by omega) (by omega))
      simp [cnt, hs]; exact this
    | true =>
      obtain ⟨h1, h2⟩ := h m (by omega) hs
      have hd := cnt_drop h1 h2
      have := cnt_inj f m (fun k => t k && !(k == f m)) (fun i hi' hsi => by
        obtain ⟨h3, h4⟩ := h i (by omega) hsi
        refine ⟨h3, ?_⟩
        have : f i ≠ f m := fun e => by have := hi i m (by omega) (by omega) hsi hs e; omega
        simp [h4, this]) (fun i j h1 h2 => hi i j (by omega) (by omega))
      simp [cnt, hs]; omega
theorem cnt_split (s t : Nat → Bool) : ∀ n, cnt s n = cnt (fun i => s i && t i) n + cnt (fun i => s i && !t i) n
  | 0 => rfl
  | n + 1 => by
    have := cnt_split s t n
    unfold cnt
    cases hs : s n <;> cases ht : t n <;> simp [hs, ht] <;> omega
theorem cnt_not (t : Nat → Bool) : ∀ n, cnt t n + cnt (fun i => !t i) n = n
  | 0 => rfl
  | n + 1 => by
    have := cnt_not t n
    unfold cnt
    cases ht : t n <;> simp [ht] <;> omega
theorem cnt_lt {i : Nat} : ∀ {m : Nat}, i ≤ m → cnt (fun j => decide (j < i)) m = i
  | 0, h => by have : i = 0 := by omega
               subst this; rfl
  | m + 1, h => by
    by_cases e : i = m + 1
    · subst e
      have h1 : cnt (fun j => decide (j < m + 1)) m = cnt (fun j => decide (j < m)) m := cnt_congr m (fun j hj => by simp [hj, Nat.lt_succ_of_lt hj])
      have h2 := cnt_lt (Nat.le_refl m)
      simp [cnt, h1, h2]
    · have h2 := cnt_lt (show i ≤ m by omega)
      have : ¬ m < i := by omega
      simp [cnt, h2, this]
theorem cnt_pre {S : Nat → Bool} {i m : Nat} (hi : i ≤ m) (hS : ∀ j, S j = true → j < i) : cnt S m = cnt S i := by
  induction m with
  | zero => have : i = 0 := by omega
            subst this; rfl
  | succ m ih =>
    by_cases e : i = m + 1
    · subst e; rfl
    · have h1 := ih (by omega)
      have h2 : S m = false := by cases h : S m with | false => rfl | true => have := hS m h; omega
      simp [cnt, h2, h1]
def mat (has : List Int) (i : Nat) : Bool := decide (has.getD i (-1) ≠ -1)
theorem mat_iff {has : List Int} {i : Nat} : mat has i = true ↔ has.getD i (-1) ≠ -1 := by simp [mat]

section rank
variable {R : Nat → Nat → Bool} {m n : Nat}
theorem nb_mono {S T : Nat → Bool} {k : Nat} (h : ∀ i, i < m → S i = true → T i = true) (hk : nb R m S k = true) : nb R m T k = true := by
  obtain ⟨i, hi, hs, hR⟩ := nb_iff.1 hk
  exact nb_iff.2 ⟨i, hi, h i hi hs, hR⟩
theorem fit_some {has : List Int} (hF : FitR R m n has) {i : Nat} (hi : i < m) (hm : mat has i = true) : ∃ k : Nat, k < n ∧ has.getD i (-1) = (k : Int) ∧ R i k = true :=
  (hF.ok i hi).resolve_left (mat_iff.1 hm)
/-- Those of S who have an item are no more than the items near. -/
theorem fit_near {has : List Int} (hF : FitR R m n has) {S : Nat → Bool} (hS : ∀ i, i < m → S i = true → mat has i = true) : cnt S m ≤ cnt (nb R m S) n := by
  refine cnt_inj (fun i => (has.getD i (-1)).toNat) m _ (fun i hi hs => ?_) (fun i j hi hj hsi hsj e => ?_)
  · obtain ⟨k, hk, hv, hR⟩ := fit_some hF hi (hS i hi hs)
    rw [hv]
    exact ⟨by simpa using hk, nb_iff.2 ⟨i, hi, hs, by simpa using hR⟩⟩
  · obtain ⟨k, hk, hv, hR⟩ := fit_some hF hi (hS i hi hsi)
    obtain ⟨k', hk', hv', hR'⟩ := fit_some hF hj (hS j hj hsj)
    refine hF.inj i j hi hj ?_ (by rw [hv]; omega)
    simp only [hv, hv'] at e ⊢
    simp at e
    rw [e]
theorem fit_upper {has : List Int} (hF : FitR R m n has) {S : Nat → Bool} {i : Nat} (hi : i ≤ m) (hm : ∀ j, mat has j = true → j < i) (hS : ∀ j, S j = true → j < i) : cnt S m + cnt (mat has) m ≤ cnt (nb R m S) n + i := by
  have h1 := cnt_split S (mat has) m
  have h2 : cnt (fun j => S j && mat has j) m ≤ cnt (nb R m S) n :=
    Nat.le_trans (fit_near hF (S := fun j => S j && mat has j) (fun j _ h => by simp at h; exact h.2)) (cnt_le n fun k _ hk => nb_mono (fun j _ h => by simp at h; exact h.1) hk)
  have h3 : cnt (fun j => S j && !mat has j) m ≤ cnt (fun j => decide (j < i) && !mat has j) m := cnt_le m fun j _ h => by
    simp at h ⊢; exact ⟨hS j h.1, h.2⟩
  have h4 := cnt_split (fun j => decide (j < i)) (mat has) m
  rw [cnt_lt hi] at h4
  have h5 : cnt (fun j => decide (j < i) && mat has j) m = cnt (mat has) m := cnt_congr m fun j _ => by
    cases h : mat has j with
    | false => simp
    | true => simp [hm j h]
  omega
end rank

def mostN (R : Nat → Nat → Bool) (m n : Nat) : Nat → List Int
  | 0 => List.replicate m (-1)
  | i + 1 => match moreR R n (mostN R m n i) i with
    | some l => l
    | none => mostN R m n i
def mostR (R : Nat → Nat → Bool) (m n : Nat) : List Int := mostN R m n m

section most
variable {R : Nat → Nat → Bool} {m n : Nat}
structure MI (R : Nat → Nat → Bool) (m n i : Nat) : Prop where
  fit : FitR R m n (mostN R m n i)
  late : ∀ j, mat (mostN R m n i) j = true → j < i
  cert : ∃ T : Nat → Bool, (∀ j, T j = true → j < i) ∧ cnt (nb R m T) n + i ≤ cnt T m + cnt (mat (mostN R m n i)) m
theorem most_none {i : Nat} (h : MI R m n i) : (mostN R m n i).getD i (-1) = -1 := by
  cases hm : mat (mostN R m n i) i with
  | true => have := h.late i hm; omega
  | false => simpa [mat] using hm
/-- A step at which nothing is found. -/
theorem mi_none (hn : n ≤ 8) {i : Nat} (hi : i < m) (h : MI R m n i) (he : moreR R n (mostN R m n i) i = none) : MI R m n (i + 1) := by
  have e : mostN R m n (i + 1) = mostN R m n i := by simp only [mostN, he]
  obtain ⟨T, hT, hc⟩ := h.cert
  obtain ⟨T2, ha, hb, hmt, hnear⟩ := more_none hn h.fit hi (most_none h) he
  obtain ⟨has, hhas⟩ : ∃ has, has = mostN R m n i := ⟨_, rfl⟩
  have hF := h.fit
  have hlate := h.late
  rw [← hhas] at hc hmt hnear hF hlate
  have hT2 : ∀ j, T2 j = true → j < i + 1 := fun j hj => by
    by_cases e : j = i
    · omega
    · have := hlate j (mat_iff.2 (hmt j hj e)); omega
  have hU := cnt_modular T T2 m
  have hNU : cnt (nb R m (fun j => T j || T2 j)) n + cnt (nb R m (fun j => T j && T2 j)) n ≤ cnt (nb R m T) n + cnt (nb R m T2) n := by
    have := cnt_modular (nb R m T) (nb R m T2) n
    have h1 : cnt (nb R m (fun j => T j || T2 j)) n ≤ cnt (fun k => nb R m T k || nb R m T2 k) n := cnt_le n fun k _ hk => by
      obtain ⟨j, hj, hs, hR⟩ := nb_iff.1 hk
      simp at hs
      rcases hs with hs | hs
      · simp [nb_iff.2 ⟨j, hj, hs, hR⟩]
      · simp [nb_iff.2 ⟨j, hj, hs, hR⟩]
    have h2 : cnt (nb R m (fun j => T j && T2 j)) n ≤ cnt (fun k => nb R m T k && nb R m T2 k) n := cnt_le n fun k _ hk => by
      obtain ⟨j, hj, hs, hR⟩ := nb_iff.1 hk
      simp at hs
      simp [nb_iff.2 ⟨j, hj, hs.1, hR⟩, nb_iff.2 ⟨j, hj, hs.2, hR⟩]
    omega
  have hI : cnt (fun j => T j && T2 j) m ≤ cnt (nb R m (fun j => T j && T2 j)) n := fit_near hF fun j _ hs => by
    simp at hs
    have := hT j hs.1
    exact mat_iff.2 (hmt j hs.2 (by omega))
  have hN2 : cnt (nb R m T2) n + 1 ≤ cnt T2 m := by
    have hd := cnt_drop hi ha
    have : cnt (nb R m T2) n ≤ cnt (fun j => T2 j && !(j == i)) m := by
      refine cnt_inj (fun k => holdN has has.length k - 1) n _ (fun k hk hs => ?_) (fun k k' hk hk' hs hs' e => ?_)
      · obtain ⟨j, hj, hsj, hR⟩ := nb_iff.1 hs
        obtain ⟨j', h1, h2, h3⟩ := hnear j k hsj hk hR
        have hj'm := hb j' h1
        have hpos : 0 < holdN has has.length k := by
          rcases Nat.eq_zero_or_pos (holdN has has.length k) with h0 | h0
          · exact absurd h3 (holdN_zero h0 j' (by rw [hF.len]; exact hj'm))
          · exact h0
        have hp := holdN_pos hpos
        have hjj : holdN has has.length k - 1 = j' := hF.inj _ _ (by have := hp.1; rw [hF.len] at this ⊢; exact this) hj'm (by rw [hp.2, h3]) (by rw [hp.2]; omega)
        rw [hjj]
        exact ⟨hj'm, by simp [h1, h2]⟩
      · have val : ∀ k, k < n → nb R m T2 k = true → has.getD (holdN has has.length k - 1) (-1) = (k : Int) := by
          intro k hk hs
          obtain ⟨j, hj, hsj, hR⟩ := nb_iff.1 hs
          obtain ⟨j', h1, h2, h3⟩ := hnear j k hsj hk hR
          have hpos : 0 < holdN has has.length k := by
            rcases Nat.eq_zero_or_pos (holdN has has.length k) with h0 | h0
            · exact absurd h3 (holdN_zero h0 j' (by rw [hF.len]; exact hb j' h1))
            · exact h0
          exact (holdN_pos hpos).2
        have a := val k hk hs
        have b := val k' hk' hs'
        have e' : holdN has has.length k - 1 = holdN has has.length k' - 1 := e
        rw [e', b] at a
        omega
    omega
  refine ⟨by rw [e]; exact h.fit, fun j hj => by rw [e] at hj; have := h.late j hj; omega, fun j => T j || T2 j, fun j hj => ?_, ?_⟩
  · simp at hj
    rcases hj with hj | hj
    · have := hT j hj; omega
    · exact hT2 j hj
  · rw [e, ← hhas]; omega
theorem mi_some (hn : n ≤ 8) {i : Nat} (hi : i < m) (h : MI R m n i) {out : List Int} (he : moreR R n (mostN R m n i) i = some out) :
    MI R m n (i + 1) ∧ ∀ j, j < m → mat (mostN R m n (i + 1)) j = (mat (mostN R m n i) j || (j == i)) := by
  have e : mostN R m n (i + 1) = out := by simp only [mostN, he]
  obtain ⟨hF, hiff⟩ := more_some hn h.fit hi (most_none h) he
  have hpt : ∀ j, j < m → mat out j = (mat (mostN R m n i) j || (j == i)) := fun j hj => by
    have := hiff j hj
    unfold mat
    by_cases h1 : (mostN R m n i).getD j (-1) = -1
    · by_cases h2 : j = i
      · have : ¬ out.getD j (-1) = -1 := fun hh => (this.1 hh).2 h2
        have h3 : (j == i) = true := by simpa using h2
        rw [h3, Bool.or_true]; exact decide_eq_true this
      · have := this.2 ⟨h1, h2⟩
        simp only [this, h1]; simp [h2]
    · have : ¬ out.getD j (-1) = -1 := fun hh => h1 (this.1 hh).1
      simp only [ne_eq, this, not_false_eq_true, decide_true, h1, Bool.true_or]
  have hbig : ∀ j, mat out j = true → j < m := fun j hj => by
    rcases Nat.lt_or_ge j m with hh | hh
    · exact hh
    · exfalso
      rw [mat_iff] at hj
      exact hj (by simp [hF.len, hh])
  refine ⟨⟨by rw [e]; exact hF, fun j hj => ?_, ?_⟩, fun j hj => by rw [e]; exact hpt j hj⟩
  · rw [e] at hj
    have hjm := hbig j hj
    rw [hpt j hjm] at hj
    simp at hj
    rcases hj with hj | hj
    · have := h.late j hj; omega
    · omega
  · obtain ⟨T, hT, hc⟩ := h.cert
    refine ⟨T, fun j hj => by have := hT j hj; omega, ?_⟩
    have h1 : mat out i = true := by rw [hpt i hi]; simp
    have hd := cnt_drop hi h1
    have h2 : cnt (fun j => mat out j && !(j == i)) m = cnt (mat (mostN R m n i)) m := cnt_congr m fun j hj => by
      rw [hpt j hj]
      by_cases e2 : j = i
      · subst e2
        have h0 : mat (mostN R m n j) j = false := by unfold mat; rw [most_none h]; rfl
        simp [h0]
      · have : (j == i) = false := by simpa using e2
        simp [this]
    rw [e]; omega
theorem mi_all (hn : n ≤ 8) : ∀ i, i ≤ m → MI R m n i
  | 0, _ => by
    have hrep : ∀ j, (List.replicate m (-1 : Int)).getD j (-1) = -1 := fun j => by
      by_cases hj : j < m <;> simp [List.getD_eq_getElem?_getD, List.getElem?_replicate, hj]
    refine ⟨⟨by simp [mostN], fun j _ => .inl (hrep j), fun j k _ _ _ h => absurd (hrep j) h⟩, fun j hj => ?_, fun _ => false, fun j hj => (by cases hj), ?_⟩
    · rw [mat_iff] at hj; exact absurd (hrep j) hj
    · have : cnt (nb R m (fun _ => false)) n = 0 := cnt_zero n fun k _ => by
        cases h : nb R m (fun _ => false) k with
        | false => rfl
        | true => obtain ⟨_, _, h, _⟩ := nb_iff.1 h; cases h
      omega
  | i + 1, hi => by
    have h := mi_all hn i (by omega)
    cases he : moreR R n (mostN R m n i) i with
    | none => exact mi_none hn (by omega) h he
    | some out => exact (mi_some hn (by omega) h he).1
/-- How many of the first i have an item when these have gone. -/
noncomputable def rk (R : Nat → Nat → Bool) (n i : Nat) : Nat := cnt (mat (mostN R i n i)) i
theorem nb_pre {T : Nat → Bool} {i : Nat} (hi : i ≤ m) (hT : ∀ j, T j = true → j < i) (k : Nat) : nb R m T k = nb R i T k := by
  have : nb R m T k = true ↔ nb R i T k = true := by
    rw [nb_iff, nb_iff]
    constructor
    · rintro ⟨j, _, hs, hR⟩; exact ⟨j, hT j hs, hs, hR⟩
    · rintro ⟨j, hj, hs, hR⟩; exact ⟨j, by omega, hs, hR⟩
  cases h : nb R i T k with
  | true => exact this.2 h
  | false => cases h2 : nb R m T k with
    | false => rfl
    | true => rw [this.1 h2] at h; cases h
theorem rk_eq (hn : n ≤ 8) {i : Nat} (hi : i ≤ m) : cnt (mat (mostN R m n i)) m = rk R n i := by
  have h1 := mi_all (R := R) (m := m) hn i hi
  have h2 := mi_all (R := R) (m := i) hn i (Nat.le_refl _)
  obtain ⟨T1, hT1, c1⟩ := h1.cert
  obtain ⟨T2, hT2, c2⟩ := h2.cert
  have u1 := fit_upper h1.fit hi h1.late hT2
  have u2 := fit_upper h2.fit (Nat.le_refl _) h2.late hT1
  have e1 := cnt_pre hi hT1
  have e2 := cnt_pre hi hT2
  have n1 : cnt (nb R m T1) n = cnt (nb R i T1) n := cnt_congr n fun k _ => nb_pre hi hT1 k
  have n2 : cnt (nb R m T2) n = cnt (nb R i T2) n := cnt_congr n fun k _ => nb_pre hi hT2 k
  unfold rk
  omega
theorem mat_keep (hn : n ≤ 8) {j : Nat} : ∀ i, j < i → i ≤ m → mat (mostN R m n i) j = mat (mostN R m n (j + 1)) j
  | i + 1, hj, hi => by
    by_cases e : j = i
    · subst e; rfl
    · have ih := mat_keep hn i (show j < i by omega) (show i ≤ m by omega)
      have h := mi_all (R := R) (m := m) hn i (by omega)
      rw [← ih]
      cases he : moreR R n (mostN R m n i) i with
      | none =>
        have e : mostN R m n (i + 1) = mostN R m n i := by simp only [mostN, he]
        rw [e]
      | some out =>
        rw [(mi_some hn (by omega) h he).2 j (by omega)]
        have : (j == i) = false := by simpa using e
        simp [this]
theorem mat_rk (hn : n ≤ 8) {j : Nat} (hj : j < m) : mat (mostN R m n (j + 1)) j = decide (rk R n (j + 1) ≠ rk R n j) := by
  have h := mi_all (R := R) (m := m) hn j (by omega)
  have r1 := rk_eq (R := R) (m := m) hn (show j + 1 ≤ m by omega)
  have r0 := rk_eq (R := R) (m := m) hn (show j ≤ m by omega)
  have h0 : mat (mostN R m n j) j = false := by unfold mat; rw [most_none h]; rfl
  cases he : moreR R n (mostN R m n j) j with
  | none =>
    have e : mostN R m n (j + 1) = mostN R m n j := by simp only [mostN, he]
    rw [e] at r1 ⊢
    rw [h0, ← r1, ← r0]; simp
  | some out =>
    have hpt := (mi_some hn hj h he).2
    have h1 : mat (mostN R m n (j + 1)) j = true := by rw [hpt j hj]; simp
    have hd := cnt_drop hj h1
    have h2 : cnt (fun x => mat (mostN R m n (j + 1)) x && !(x == j)) m = cnt (mat (mostN R m n j)) m := cnt_congr m fun x hx => by
      rw [hpt x hx]
      by_cases e2 : x = j
      · subst e2; simp [h0]
      · have : (x == j) = false := by simpa using e2
        simp [this]
    rw [h1]
    have : rk R n (j + 1) ≠ rk R n j := by omega
    simp [this]
/-- Who has an item does not hang on those behind. -/
theorem most_ahead (hn : n ≤ 8) {i j : Nat} (hj : j < i) (hi : i ≤ m) : mat (mostR R i n) j = mat (mostR R m n) j := by
  unfold mostR
  rw [mat_keep hn i hj (Nat.le_refl _), mat_keep hn m (by omega) (Nat.le_refl _), mat_rk hn hj, mat_rk hn (by omega)]

/-- How many can have an item. -/
noncomputable def rkm (R : Nat → Nat → Bool) (m n : Nat) : Nat := cnt (mat (mostR R m n)) m
theorem most_fit (hn : n ≤ 8) : FitR R m n (mostR R m n) := (mi_all hn m (Nat.le_refl _)).fit
theorem rkm_up (hn : n ≤ 8) (S : Nat → Bool) : cnt S m + rkm R m n ≤ cnt (nb R m S) n + m := by
  have h := mi_all (R := R) (m := m) hn m (Nat.le_refl _)
  have := fit_upper h.fit (Nat.le_refl _) h.late (S := fun j => S j && decide (j < m)) (fun j hj => by simp at hj; exact hj.2)
  have e1 : cnt (fun j => S j && decide (j < m)) m = cnt S m := cnt_congr m fun j hj => by simp [hj]
  have e2 : cnt (nb R m (fun j => S j && decide (j < m))) n ≤ cnt (nb R m S) n := cnt_le n fun k _ hk => nb_mono (fun j _ h => by simp at h; exact h.1) hk
  unfold rkm mostR
  omega
theorem rkm_at (hn : n ≤ 8) : ∃ T : Nat → Bool, (∀ j, T j = true → j < m) ∧ cnt (nb R m T) n + m ≤ cnt T m + rkm R m n := (mi_all hn m (Nat.le_refl _)).cert
theorem rkm_le (R : Nat → Nat → Bool) (m n : Nat) : rkm R m n ≤ m := cnt_bound _ _
/-- Any matching has no more. -/
theorem fit_le (hn : n ≤ 8) {has : List Int} (hF : FitR R m n has) : cnt (mat has) m ≤ rkm R m n := by
  obtain ⟨T, hT, hc⟩ := rkm_at (R := R) (m := m) hn
  have := fit_upper hF (Nat.le_refl _) (fun j hj => by
    rcases Nat.lt_or_ge j m with hh | hh
    · exact hh
    · exfalso; rw [mat_iff] at hj; exact hj (by simp [hF.len, hh])) hT
  omega
theorem rkm_mono (hn : n ≤ 8) {R' : Nat → Nat → Bool} (h : ∀ i k, i < m → k < n → R i k = true → R' i k = true) : rkm R m n ≤ rkm R' m n := by
  obtain ⟨T, hT, hc⟩ := rkm_at (R := R') (m := m) hn
  have hu := rkm_up (R := R) (m := m) hn T
  have : cnt (nb R m T) n ≤ cnt (nb R' m T) n := cnt_le n fun k hk hh => by
    obtain ⟨i, hi, hs, hR⟩ := nb_iff.1 hh
    exact nb_iff.2 ⟨i, hi, hs, h i k hi hk hR⟩
  omega
/-- One item more that may be had, or one bidder more that may have any: at most one more. -/
theorem rkm_item (hn : n ≤ 8) {R' : Nat → Nat → Bool} (q : Nat) (h : ∀ i k, i < m → k < n → k ≠ q → R' i k = true → R i k = true) : rkm R' m n ≤ rkm R m n + 1 := by
  obtain ⟨T, hT, hc⟩ := rkm_at (R := R) (m := m) hn
  have hu := rkm_up (R := R') (m := m) hn T
  have : cnt (nb R' m T) n ≤ cnt (nb R m T) n + 1 := by
    have h1 := cnt_split (nb R' m T) (fun k => k == q) n
    have h2 : cnt (fun k => nb R' m T k && (k == q)) n ≤ 1 := by
      by_cases hq : q < n
      · have := cnt_one q n hq
        have h3 : cnt (fun k => nb R' m T k && (k == q)) n ≤ cnt (fun j => j == q) n := cnt_le n fun k _ hk => by simp at hk; simp [hk.2]
        omega
      · have : cnt (fun k => nb R' m T k && (k == q)) n = 0 := cnt_zero n fun k hk => by
          have : (k == q) = false := by simp; omega
          simp [this]
        omega
    have h3 : cnt (fun k => nb R' m T k && !(k == q)) n ≤ cnt (nb R m T) n := cnt_le n fun k hk hh => by
      simp at hh
      obtain ⟨i, hi, hs, hR⟩ := nb_iff.1 hh.1
      exact nb_iff.2 ⟨i, hi, hs, h i k hi hk hh.2 hR⟩
    omega
  omega
theorem rkm_bidder (hn : n ≤ 8) {R' : Nat → Nat → Bool} (q : Nat) (h : ∀ i k, i < m → k < n → i ≠ q → R' i k = true → R i k = true) : rkm R' m n ≤ rkm R m n + 1 := by
  obtain ⟨T, hT, hc⟩ := rkm_at (R := R) (m := m) hn
  have hu := rkm_up (R := R') (m := m) hn (fun i => T i && !(i == q))
  have h0 : cnt T m ≤ cnt (fun i => T i && !(i == q)) m + 1 := by
    have h1 := cnt_split T (fun k => k == q) m
    have h2 : cnt (fun k => T k && (k == q)) m ≤ 1 := by
      by_cases hq : q < m
      · have := cnt_one q m hq
        have h3 : cnt (fun k => T k && (k == q)) m ≤ cnt (fun j => j == q) m := cnt_le m fun k _ hk => by simp at hk; simp [hk.2]
        omega
      · have : cnt (fun k => T k && (k == q)) m = 0 := cnt_zero m fun k hk => by
          have : (k == q) = false := by simp; omega
          simp [this]
        omega
    omega
  have : cnt (nb R' m (fun i => T i && !(i == q))) n ≤ cnt (nb R m T) n := cnt_le n fun k hk hh => by
    obtain ⟨i, hi, hs, hR⟩ := nb_iff.1 hh
    simp at hs
    exact nb_iff.2 ⟨i, hi, hs.1, h i k hi hk hs.2 hR⟩
  omega
/-- As many bidders as items. -/
theorem rkm_turn (hn : n ≤ 8) (hm : m ≤ 8) : rkm (fun k i => R i k) n m ≤ rkm R m n := by
  obtain ⟨T, hT, hc⟩ := rkm_at (R := R) (m := m) hn
  -- the items that are not near to T
  have hu := rkm_up (R := fun k i => R i k) (m := n) hm (fun k => !nb R m T k)
  have h1 := cnt_not (nb R m T) n
  have h2 : cnt (nb (fun k i => R i k) n (fun k => !nb R m T k)) m ≤ cnt (fun i => !T i) m := cnt_le m fun i hi hh => by
    obtain ⟨k, hk, hs, hR⟩ := nb_iff.1 hh
    cases hti : T i with
    | false => rfl
    | true =>
      have : nb R m T k = true := nb_iff.2 ⟨i, hi, hti, hR⟩
      rw [this] at hs; cases hs
  have h3 := cnt_not T m
  omega
/-- All of some can have one: by Hall. -/
theorem rkm_hall (hn : n ≤ 8) (P : Nat → Bool) : rkm (fun i k => P i && R i k) m n ≤ cnt P m ∧
    (rkm (fun i k => P i && R i k) m n = cnt P m ↔ ∀ S : Nat → Bool, (∀ i, S i = true → P i = true) → cnt S m ≤ cnt (nb R m S) n) := by
  have hnb : ∀ S : Nat → Bool, ∀ k, nb (fun i k => P i && R i k) m S k = nb R m (fun i => S i && P i) k := fun S k => by
    have : nb (fun i k => P i && R i k) m S k = true ↔ nb R m (fun i => S i && P i) k = true := by
      rw [nb_iff, nb_iff]
      constructor
      · rintro ⟨i, hi, hs, hR⟩; simp at hR; exact ⟨i, hi, by simp [hs, hR.1], hR.2⟩
      · rintro ⟨i, hi, hs, hR⟩; simp at hs; exact ⟨i, hi, hs.1, by simp [hs.2, hR]⟩
    cases h : nb R m (fun i => S i && P i) k with
    | true => exact this.2 h
    | false => cases h2 : nb (fun i k => P i && R i k) m S k with
      | false => rfl
      | true => rw [this.1 h2] at h; cases h
  have hcn : ∀ S : Nat → Bool, cnt (nb (fun i k => P i && R i k) m S) n = cnt (nb R m (fun i => S i && P i)) n := fun S => cnt_congr n fun k _ => hnb S k
  have hP := cnt_not P m
  have h0 : rkm (fun i k => P i && R i k) m n ≤ cnt P m := by
    have hu := rkm_up (R := fun i k => P i && R i k) (m := m) hn (fun i => !P i)
    rw [hcn] at hu
    have : cnt (nb R m (fun i => !P i && P i)) n = 0 := cnt_zero n fun k _ => by
      cases h : nb R m (fun i => !P i && P i) k with
      | false => rfl
      | true => obtain ⟨i, _, h, _⟩ := nb_iff.1 h; cases hh : P i <;> simp [hh] at h
    omega
  refine ⟨h0, fun he S hS => ?_, fun h => ?_⟩
  · have hu := rkm_up (R := fun i k => P i && R i k) (m := m) hn (fun i => S i || !P i)
    rw [hcn] at hu
    have e1 : cnt (fun i => S i || !P i) m = cnt S m + cnt (fun i => !P i) m := by
      have := cnt_modular S (fun i => !P i) m
      have h2 : cnt (fun i => S i && !P i) m = 0 := cnt_zero m fun i _ => by
        cases h : S i with
        | false => rfl
        | true => simp [hS i h]
      omega
    have e2 : cnt (nb R m (fun i => (S i || !P i) && P i)) n ≤ cnt (nb R m S) n := cnt_le n fun k _ hk => nb_mono (fun i _ h => by
      cases hh : P i <;> simp [hh] at h
      exact h) hk
    omega
  · obtain ⟨T, hT, hc⟩ := rkm_at (R := fun i k => P i && R i k) (m := m) hn
    rw [hcn] at hc
    have h1 := h (fun i => T i && P i) (fun i hi => by simp at hi; exact hi.2)
    have h2 := cnt_split T P m
    have h3 : cnt (fun i => T i && !P i) m ≤ cnt (fun i => !P i) m := cnt_le m fun i _ hi => by simp at hi; simp [hi.2]
    omega
end most
end Go.Proofs.Ytkhnohnkcdcajaa.Sal
