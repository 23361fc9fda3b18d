/- Plain: what a bidder loses, what an item is worth at most, fewer bidders. -/
import Derived.Test.YtknkdnohcepmdaaM3
namespace Go.Proofs.Ytknkdnohcepmdaa.Sal
set_option linter.all false

theorem check_of {g : List (List Int)} {n : Nat} (h1 : 1 ≤ n) (h8 : n ≤ 8) (hG : Good g n) : checkG g (n : Int) = true := by
  have hf := hG.few
  unfold checkG
  rw [List.not_any_eq_all_not]
  have hall : g.all (fun l => !badL (n : Int) l) = true := by
    rw [List.all_eq_true]
    intro l hl
    obtain ⟨i, hi, rfl⟩ := List.getElem_of_mem hl
    rw [not_badL]
    unfold goodL
    have hli := hG.len i hi
    have e : g.getD i [] = g[i] := by simp [hi]
    rw [e] at hli
    simp only [Bool.and_eq_true, decide_eq_true_eq, List.all_eq_true]
    refine ⟨by omega, fun x hx => ?_⟩
    obtain ⟨k, hk, rfl⟩ := List.getElem_of_mem hx
    have hb := hG.bnd i k
    have e2 : gain g i k = g[i][k] := by unfold gain; rw [e]; simp [hk]
    rw [e2] at hb
    unfold inr
    simp only [Bool.and_eq_true, decide_eq_true_eq]
    exact hb
  rw [hall]
  simp only [Bool.and_true, Bool.and_eq_true, decide_eq_true_eq]
  omega
theorem good_of {g : List (List Int)} {n : Nat} (hc : checkG g (n : Int) = true) : 1 ≤ n ∧ n ≤ 8 ∧ Good g n := by
  obtain ⟨m, hm, h1, h8, hG⟩ := check_good hc
  obtain rfl : n = m := by omega
  exact ⟨h1, h8, hG⟩
theorem opt_le {G G' : Nat → Nat → Int} {m m' L L' : Nat} {v v' c : Int} (h : Opt G m L v) (h' : Opt G' m' L' v') (f : ∀ u p, Dual G m L u p → ∃ u' p', Dual G' m' L' u' p' ∧ sm u' m' + sm p' L' ≤ sm u m + sm p L + c) : v' ≤ v + c := by
  obtain ⟨u, p, hd, hs⟩ := h.dual
  obtain ⟨u', p', hd', hs'⟩ := f u p hd
  have := h'.ge u' p' hd'
  omega
/-- Row i gains nothing. -/
def offR (G : Nat → Nat → Int) (i : Nat) : Nat → Nat → Int := fun a j => if a = i then -1 else G a j
def offC (G : Nat → Nat → Int) (k : Nat) : Nat → Nat → Int := fun a j => if j = k then -1 else G a j
theorem loss_has {G : Nat → Nat → Int} {m n i : Nat} {V Vo : Int} (hi : i < m) (hV : Opt G m n V) (hVo : Opt (offR G i) m n Vo) : ∃ u p, Dual G m n u p ∧ sm u m + sm p n = V ∧ V - Vo ≤ u i := by
  have hs0 : Vo ≤ V := by
    have := opt_le (c := 0) hV hVo fun u p hd => ⟨u, p, ⟨hd.u0, hd.p0, fun a j ha hj => by
      unfold offR
      split
      · have := hd.u0 a ha; have := hd.p0 j hj; omega
      · exact hd.cov a j ha hj⟩, by omega⟩
    omega
  let G2 : Nat → Nat → Int := fun a j => if j < n then G a j else (if a = i then V - Vo else -1)
  have g2a : ∀ a j, j < n → G2 a j = G a j := fun a j h => if_pos h
  have g2b : ∀ a, a ≠ i → G2 a n = -1 := fun a h => by show (if n < n then _ else _) = _; simp [h]
  have g2c : G2 i n = V - Vo := by show (if n < n then _ else _) = _; simp
  obtain ⟨V2, h2⟩ := opt_ex G2 m (n + 1)
  have hV2 : V2 ≤ V := by
    obtain ⟨τ, hinj, hv⟩ := h2.has
    have hinj' : Inj τ n := fun a b ha hb e => hinj a b (by omega) (by omega) e
    have e0 : val G2 m (n + 1) τ = sm (wt G2 m τ) n + wt G2 m τ n := rfl
    by_cases hd : τ n = i
    · have e1 : wt G2 m τ n = V - Vo := by
        unfold wt
        rw [hd, if_pos hi, g2c, if_pos (by omega)]
      have e2 : sm (wt G2 m τ) n = val (offR G i) m n τ := sm_congr n fun j hj => by
        have hne : τ j ≠ i := fun e => by have := hinj j n (by omega) (by omega) (by rw [e, hd]); omega
        unfold wt
        have e : offR G i (τ j) j = G (τ j) j := if_neg hne
        rw [g2a _ _ hj, e]
      have := hVo.le τ hinj'
      omega
    · have e1 : wt G2 m τ n = 0 := by
        unfold wt
        rw [g2b _ hd]
        split <;> simp
      have e2 : sm (wt G2 m τ) n = val G m n τ := sm_congr n fun j hj => by unfold wt; rw [g2a _ _ hj]
      have := hV.le τ hinj'
      omega
  obtain ⟨u, p, hd, hs⟩ := h2.dual
  have d1 : Dual G m n u p := ⟨hd.u0, fun j hj => hd.p0 j (by omega), fun a j ha hj => by rw [← g2a a j hj]; exact hd.cov a j ha (by omega)⟩
  have s1 := hV.ge u p d1
  have es : sm p (n + 1) = sm p n + p n := rfl
  have pn := hd.p0 n (by omega)
  have c1 := hd.cov i n hi (by omega)
  rw [g2c] at c1
  exact ⟨u, p, d1, by omega, by omega⟩
theorem loss_law {g : List (List Int)} {n i : Nat} (hm : g.length ≤ 8) (hi : i < g.length) {Vo : Int} (hVo : Opt (offR (gain g) i) g.length n Vo) : uu g n i n = VV g n - Vo := by
  have hV := VV_opt hm n
  obtain ⟨d, s⟩ := proved_dual hm n
  have first : Vo ≤ VV g n - uu g n i n := by
    have d1 : Dual (offR (gain g) i) g.length n (fun j => if j = i then 0 else uu g n j n) (pk g n) := by
      refine ⟨fun a ha => ?_, d.p0, fun a j ha hj => ?_⟩
      · by_cases h : a = i
        · simp [h]
        · simp only [h, if_false]; exact d.u0 a ha
      · unfold offR
        have := d.p0 j hj
        by_cases h : a = i
        · simp only [h, if_true]; omega
        · simp only [h, if_false]; exact d.cov a j ha hj
    have h1 := hVo.ge _ _ d1
    have h2 := sm_out (fun j => uu g n j n) hi
    omega
  obtain ⟨u, p, hd, hs, hu⟩ := loss_has hi hV hVo
  have b : u i ≤ uu g n i n := by
    have hmin : (if u i ≤ uu g n i n then u i else uu g n i n) ≤ u i ∧ (if u i ≤ uu g n i n then u i else uu g n i n) ≤ uu g n i n ∧ 0 ≤ (if u i ≤ uu g n i n then u i else uu g n i n) := by
      have := hd.u0 i hi
      have := d.u0 i hi
      split <;> omega
    obtain ⟨c, hc⟩ : ∃ c, c = (if u i ≤ uu g n i n then u i else uu g n i n) := ⟨_, rfl⟩
    have hcor : c = u i ∨ c = uu g n i n := by rw [hc]; split <;> simp
    rw [← hc] at hmin
    have d1 : Dual (gain g) g.length n (fun a => if a = i then c else u a) p := by
      refine ⟨fun a ha => ?_, hd.p0, fun a j ha hj => ?_⟩
      · by_cases h : a = i
        · simp only [h, if_true]; exact hmin.2.2
        · simp only [h, if_false]; exact hd.u0 a ha
      · by_cases h : a = i
        · subst h
          simp only [if_true]
          rcases hcor with e | e <;> rw [e]
          · exact hd.cov a j ha hj
          · have h1 := d.cov a j ha hj
            have h2 : pk g n j ≤ p j := price_ge hj (WW_opt hm n j) hd hs
            omega
        · simp only [h, if_false]; exact hd.cov a j ha hj
    have h1 := hV.ge _ _ d1
    rw [sm_repl u hi c] at h1
    omega
  omega
theorem upper_law {g : List (List Int)} {n k : Nat} (hm : g.length ≤ 8) (hk : k < n) {Vo : Int} (hVo : Opt (offC (gain g) k) g.length n Vo) : pk g n k ≤ VV g n - Vo := by
  obtain ⟨d, s⟩ := proved_dual hm n
  have d1 : Dual (offC (gain g) k) g.length n (fun i => uu g n i n) (fun j => if j = k then 0 else pk g n j) := by
    refine ⟨d.u0, fun j hj => ?_, fun a j ha hj => ?_⟩
    · by_cases h : j = k
      · simp [h]
      · simp only [h, if_false]; exact d.p0 j hj
    · unfold offC
      have := d.u0 a ha
      by_cases h : j = k
      · simp only [h, if_true]; omega
      · simp only [h, if_false]; exact d.cov a j ha hj
  have h1 := hVo.ge _ _ d1
  have h2 := sm_out (pk g n) hk
  omega
theorem fewer_law {G : Nat → Nat → Int} {m n i k : Nat} {V Va Vb Vc : Int} (hne : i ≠ k) (hV : Opt G m n V) (ha : Opt (offR G i) m n Va) (hb : Opt (offR G k) m n Vb) (hc : Opt (offR (offR G k) i) m n Vc) : V - Va ≤ Vb - Vc := by
  obtain ⟨ua, pa, da, sa⟩ := ha.dual
  obtain ⟨ub, pb, db, sb⟩ := hb.dual
  have d1 : Dual G m n (fun j => if j = i then ub j else if j = k then ua j else if ua j ≤ ub j then ua j else ub j) (fun j => if pa j ≤ pb j then pb j else pa j) := by
    refine ⟨fun a h => ?_, fun j h => ?_, fun a j h hj => ?_⟩
    · have := da.u0 a h; have := db.u0 a h; split <;> (try split) <;> (try split) <;> omega
    · have := da.p0 j h; have := db.p0 j h; split <;> omega
    · have h1 := da.cov a j h hj
      have h2 := db.cov a j h hj
      unfold offR at h1 h2
      by_cases ei : a = i
      · have ek : ¬ a = k := fun e => hne (ei.symm.trans e)
        simp only [ei, if_true] at *
        have ek' : ¬ i = k := hne
        simp only [ek', if_false] at *
        split <;> omega
      · simp only [ei, if_false] at *
        by_cases ek : a = k
        · simp only [ek, if_true] at *
          split <;> omega
        · simp only [ek, if_false] at *
          split <;> split <;> omega
  have d2 : Dual (offR (offR G k) i) m n (fun j => if j = i then ua j else if j = k then ub j else if ua j ≤ ub j then ub j else ua j) (fun j => if pa j ≤ pb j then pa j else pb j) := by
    refine ⟨fun a h => ?_, fun j h => ?_, fun a j h hj => ?_⟩
    · have := da.u0 a h; have := db.u0 a h; split <;> (try split) <;> (try split) <;> omega
    · have := da.p0 j h; have := db.p0 j h; split <;> omega
    · have h1 := da.cov a j h hj
      have h2 := db.cov a j h hj
      have h3 := da.u0 a h
      have h4 := db.u0 a h
      have h5 := da.p0 j hj
      have h6 := db.p0 j hj
      unfold offR at h1 h2 ⊢
      by_cases ei : a = i
      · simp only [ei, if_true] at *
        split <;> omega
      · simp only [ei, if_false] at *
        by_cases ek : a = k
        · simp only [ek, if_true] at *
          split <;> omega
        · simp only [ek, if_false] at *
          split <;> split <;> omega
  have h1 := hV.ge _ _ d1
  have h2 := hc.ge _ _ d2
  have e1 : sm (fun j => (if j = i then ub j else if j = k then ua j else if ua j ≤ ub j then ua j else ub j) + (if j = i then ua j else if j = k then ub j else if ua j ≤ ub j then ub j else ua j)) m = sm (fun j => ua j + ub j) m := sm_congr m fun j _ => by
    split
    · omega
    · split
      · omega
      · split <;> omega
  have e2 : sm (fun j => (if pa j ≤ pb j then pb j else pa j) + (if pa j ≤ pb j then pa j else pb j)) n = sm (fun j => pa j + pb j) n := sm_congr n fun j _ => by split <;> omega
  rw [sm_add, sm_add ua ub] at e1
  rw [sm_add, sm_add pa pb] at e2
  omega

/-! ### without -/
theorem low_get (l : List Int) (k : Nat) : (low l l.length).getD k 0 = if k < l.length then -1 else 0 := by
  by_cases h : k < l.length
  · simp [low, h]
  · simp [low, h]
theorem gain_without {g : List (List Int)} {i : Nat} (hi : i < g.length) (a k : Nat) : gain (without g i) a k = if a = i then (if k < (g.getD i []).length then -1 else 0) else gain g a k := by
  unfold gain without
  rw [getD_set _ _ _ _ _ hi]
  by_cases h : a = i
  · simp only [h, if_true]; exact low_get _ _
  · simp only [h, if_false]
theorem without_len (g : List (List Int)) (i : Nat) : (without g i).length = g.length := by simp [without]
theorem without_good {g : List (List Int)} {n i : Nat} (hG : Good g n) (hi : i < g.length) : Good (without g i) n := by
  refine ⟨by rw [without_len]; exact hG.few, fun a ha => ?_, fun a k => ?_⟩
  · rw [without_len] at ha
    unfold without
    rw [getD_set _ _ _ _ _ hi]
    by_cases h : a = i
    · simp only [h, if_true]; rw [low_len]; exact hG.len i hi
    · simp only [h, if_false]; exact hG.len a ha
  · rw [gain_without hi]
    have := hG.bnd a k
    split
    · split <;> omega
    · exact this
theorem without_opt {g : List (List Int)} {n i : Nat} (hG : Good g n) (hi : i < g.length) : Opt (offR (gain g) i) g.length n (VV (without g i) n) := by
  have h := VV_opt (without_good hG hi).few n
  rw [without_len] at h
  refine opt_congr (fun a j ha hj => ?_) h
  rw [gain_without hi]
  unfold offR
  by_cases e : a = i
  · have := hG.len i hi
    simp only [e, if_true]
    rw [if_pos (by omega)]
  · simp only [e, if_false]
end Go.Proofs.Ytknkdnohcepmdaa.Sal
