/- Plain: the search of a way to one more: what it finds, and what it shows where it finds none. -/
import Derived.Test.YtkhnohnkcdcajaaM1
namespace Go.Proofs.Ytkhnohnkcdcajaa.Sal
set_option linter.all false

/-! ### The search -/
def fset {α : Type} (f : Nat → α) (k : Nat) (x : α) : Nat → α := fun j => if j = k then x else f j
theorem fset_same {α : Type} (f : Nat → α) (k : Nat) (x : α) : fset f k x k = x := by simp [fset]
theorem fset_other {α : Type} {f : Nat → α} {k j : Nat} {x : α} (h : j ≠ k) : fset f k x j = f j := by simp [fset, h]
/-- The items that a bidder may have, rising. -/
def rowN (n : Nat) (p : Nat → Bool) : List Nat := (List.range n).filter p
theorem mem_rowN {n : Nat} {p : Nat → Bool} {k : Nat} : k ∈ rowN n p ↔ k < n ∧ p k = true := by simp [rowN]
/-- One bidder's items, one behind the other. -/
def scanR (hold : Nat → Nat) (b : Nat) : List Nat → (Nat → Nat) → List Nat → Option Nat × (Nat → Nat) × List Nat
  | [], w, ws => (none, w, ws)
  | k :: ks, w, ws => if 0 < w k then scanR hold b ks w ws else if 0 < hold k then scanR hold b ks (fset w k (b + 1)) (ws ++ [hold k - 1]) else (some k, fset w k (b + 1), ws)
def bfsR (R : Nat → Nat → Bool) (n : Nat) (hold : Nat → Nat) : Nat → Nat → (Nat → Nat) → List Nat → Option Nat × (Nat → Nat) × List Nat
  | 0, _, w, ws => (none, w, ws)
  | f + 1, j, w, ws => if j < ws.length then
      match scanR hold (ws.getD j 0) (rowN n (R (ws.getD j 0))) w ws with
      | (some k, w', ws') => (some k, w', ws')
      | (none, w', ws') => bfsR R n hold f (j + 1) w' ws'
    else (none, w, ws)
/-- One more than who has an item; 0: nobody. -/
def holdN (has : List Int) : Nat → Nat → Nat
  | 0, _ => 0
  | j + 1, k => if has.getD j (-1) = (k : Int) then j + 1 else holdN has j k
def augR (w : Nat → Nat) : Nat → Int → List Int → List Int
  | 0, _, has => has
  | f + 1, k, has => if k = -1 then has else augR w f (has.getD (w k.toNat - 1) (-1)) (has.set (w k.toNat - 1) k)
def moreR (R : Nat → Nat → Bool) (n : Nat) (has : List Int) (a : Nat) : Option (List Int) :=
  match bfsR R n (holdN has has.length) 9 0 (fun _ => 0) [a] with
  | (some k, w, _) => some (augR w 9 (k : Int) has)
  | (none, _, _) => none

/-! ### Matchings -/
structure FitR (R : Nat → Nat → Bool) (m n : Nat) (has : List Int) : Prop where
  len : has.length = m
  ok : ∀ i, i < m → has.getD i (-1) = -1 ∨ ∃ k : Nat, k < n ∧ has.getD i (-1) = (k : Int) ∧ R i k = true
  inj : ∀ i j, i < m → j < m → has.getD i (-1) = has.getD j (-1) → has.getD i (-1) ≠ -1 → i = j
theorem getD_setI (l : List Int) (i j : Nat) (x : Int) (hi : i < l.length) : (l.set i x).getD j (-1) = if j = i then x else l.getD j (-1) := by
  simp only [List.getD_eq_getElem?_getD, List.getElem?_set]
  by_cases hj : i = j
  · subst hj; simp [hi]
  · have : ¬ j = i := fun e => hj e.symm
    simp [hj, this]
theorem holdN_pos {has : List Int} {k : Nat} : ∀ {j : Nat}, 0 < holdN has j k → holdN has j k - 1 < j ∧ has.getD (holdN has j k - 1) (-1) = (k : Int)
  | j + 1, h => by
    unfold holdN at h ⊢
    by_cases he : has.getD j (-1) = (k : Int)
    · rw [if_pos he] at h ⊢
      exact ⟨by omega, by simpa using he⟩
    · rw [if_neg he] at h ⊢
      have := holdN_pos h
      exact ⟨by omega, this.2⟩
theorem holdN_zero {has : List Int} {k : Nat} : ∀ {j : Nat}, holdN has j k = 0 → ∀ i, i < j → has.getD i (-1) ≠ (k : Int)
  | j + 1, h, i, hi => by
    unfold holdN at h
    by_cases he : has.getD j (-1) = (k : Int)
    · rw [if_pos he] at h; omega
    · rw [if_neg he] at h
      by_cases hij : i = j
      · subst hij; exact he
      · exact holdN_zero h i (by omega)

/-- What holds all through the search. -/
structure BI (R : Nat → Nat → Bool) (m n : Nat) (has : List Int) (a : Nat) (w : Nat → Nat) (ws : List Nat) : Prop where
  head : ws[0]? = some a
  bnd : ∀ b ∈ ws, b < m
  nodup : ∀ (i j b : Nat), ws[i]? = some b → ws[j]? = some b → i = j
  came : ∀ (j b : Nat), ws[j]? = some b → 0 < j → ∃ k j' : Nat, k < n ∧ has.getD b (-1) = (k : Int) ∧ 0 < w k ∧ j' < j ∧ ws[j']? = some (w k - 1)
  byok : ∀ k, 0 < w k → k < n ∧ (w k - 1) ∈ ws ∧ R (w k - 1) k = true
  full : ws.length ≤ 1 + cnt (fun k => decide (0 < w k)) n
  held : ∀ k, 0 < w k → 0 < holdN has has.length k → holdN has has.length k - 1 ∈ ws
theorem BI.len {R : Nat → Nat → Bool} {m n : Nat} {has : List Int} {a : Nat} {w : Nat → Nat} {ws : List Nat} (h : BI R m n has a w ws) : ws.length ≤ 1 + n :=
  Nat.le_trans h.full (by have := cnt_bound (fun k => decide (0 < w k)) n; omega)
theorem BI.start {R : Nat → Nat → Bool} {m n : Nat} {has : List Int} {a : Nat} (ha : a < m) : BI R m n has a (fun _ => 0) [a] := by
  refine ⟨rfl, by simp [ha], ?_, ?_, ?_, by simp, ?_⟩
  · intro i j b hi hj
    have h1 := (List.getElem?_eq_some_iff.1 hi).1
    have h2 := (List.getElem?_eq_some_iff.1 hj).1
    simp at h1 h2; omega
  · intro j b hj h0
    have h1 := (List.getElem?_eq_some_iff.1 hj).1
    simp at h1; omega
  · intro k h; omega
  · intro k h; omega
theorem cnt_fset {w : Nat → Nat} {n k x : Nat} (hk : k < n) (h0 : ¬ 0 < w k) (hx : 0 < x) : cnt (fun j => decide (0 < w j)) n + 1 = cnt (fun j => decide (0 < fset w k x j)) n := by
  have h1 : (fun j => decide (0 < fset w k x j)) k = true := by simp [fset_same, hx]
  have h2 := cnt_drop (s := fun j => decide (0 < fset w k x j)) hk h1
  rw [← h2]
  congr 1
  apply cnt_congr
  intro j hj
  by_cases e : j = k
  · subst e; simp [fset_same, h0]
  · simp [fset_other e, e]
theorem get_app {ws : List Nat} {x j b : Nat} (h : (ws ++ [x])[j]? = some b) : (j < ws.length ∧ ws[j]? = some b) ∨ (j = ws.length ∧ b = x) := by
  by_cases hj : j < ws.length
  · exact .inl ⟨hj, by rwa [List.getElem?_append_left hj] at h⟩
  · have h1 := (List.getElem?_eq_some_iff.1 h).1
    simp at h1
    have : j = ws.length := by omega
    subst this
    simp at h
    exact .inr ⟨rfl, h.symm⟩
theorem get_app_old {ws : List Nat} {x j b : Nat} (h : ws[j]? = some b) : (ws ++ [x])[j]? = some b := by
  have h1 := (List.getElem?_eq_some_iff.1 h).1
  rw [List.getElem?_append_left h1]; exact h
theorem idx_of {ws : List Nat} {b : Nat} (h : b ∈ ws) : ∃ j : Nat, ws[j]? = some b := List.mem_iff_getElem?.1 h

section search
variable {R : Nat → Nat → Bool} {m n : Nat} {has : List Int} {a : Nat}
/-- An item is come to that somebody has. -/
theorem BI.take {w : Nat → Nat} {ws : List Nat} {b k jb : Nat} (hF : FitR R m n has) (h : BI R m n has a w ws) (ha : has.getD a (-1) = -1) (hb : ws[jb]? = some b) (hk : k < n) (hR : R b k = true) (h0 : ¬ 0 < w k) (hh : 0 < holdN has has.length k) :
    BI R m n has a (fset w k (b + 1)) (ws ++ [holdN has has.length k - 1]) := by
  have hp := holdN_pos hh
  rw [hF.len] at hp
  obtain ⟨hc, hcv⟩ := hp
  rw [← hF.len] at hc hcv
  obtain ⟨c, hce⟩ : ∃ c, c = holdN has has.length k - 1 := ⟨_, rfl⟩
  rw [hF.len] at hce
  have hF' := hF.len
  rw [hF.len, ← hce] at hc hcv
  rw [hF.len, ← hce]
  have hnew : c ∉ ws := fun hm => by
    obtain ⟨j, hj⟩ := idx_of hm
    by_cases hj0 : j = 0
    · subst hj0
      rw [h.head] at hj
      cases hj
      rw [ha] at hcv; omega
    · obtain ⟨k', j', hk', hv, hw, _, _⟩ := h.came j c hj (by omega)
      rw [hcv] at hv
      have : k = k' := by omega
      subst this
      exact h0 hw
  refine ⟨get_app_old h.head, ?_, ?_, ?_, ?_, ?_, ?_⟩
  · intro x hx
    rcases List.mem_append.1 hx with hx | hx
    · exact h.bnd x hx
    · simp at hx; subst hx; exact hc
  · intro i j x hi hj
    rcases get_app hi with ⟨h1, h2⟩ | ⟨h1, h2⟩ <;> rcases get_app hj with ⟨h3, h4⟩ | ⟨h3, h4⟩
    · exact h.nodup i j x h2 h4
    · subst h4; exact absurd (List.mem_iff_getElem?.2 ⟨i, h2⟩) hnew
    · subst h2; exact absurd (List.mem_iff_getElem?.2 ⟨j, h4⟩) hnew
    · omega
  · intro j x hj hj0
    rcases get_app hj with ⟨h1, h2⟩ | ⟨h1, h2⟩
    · obtain ⟨k', j', hk', hv, hw, hlt, hj'⟩ := h.came j x h2 hj0
      have hne : k' ≠ k := fun e => by subst e; exact h0 hw
      exact ⟨k', j', hk', hv, by rw [fset_other hne]; exact hw, hlt, by rw [fset_other hne]; exact get_app_old hj'⟩
    · subst h2
      refine ⟨k, jb, hk, hcv, by rw [fset_same]; omega, ?_, by rw [fset_same]; simpa using get_app_old hb⟩
      have := (List.getElem?_eq_some_iff.1 hb).1
      omega
  · intro k' hw
    by_cases e : k' = k
    · subst e
      rw [fset_same]
      exact ⟨hk, List.mem_append_left _ (by simpa using List.mem_iff_getElem?.2 ⟨jb, hb⟩), by simpa using hR⟩
    · rw [fset_other e] at hw ⊢
      obtain ⟨h1, h2, h3⟩ := h.byok k' hw
      exact ⟨h1, List.mem_append_left _ h2, h3⟩
  · have := cnt_fset (x := b + 1) hk h0 (by omega)
    rw [← this]
    have := h.full
    simp; omega
  · intro k' hw hh'
    by_cases e : k' = k
    · subst e
      rw [hF.len, ← hce]
      simp
    · rw [fset_other e] at hw
      exact List.mem_append_left _ (h.held k' hw hh')
/-- An item is come to that nobody has. -/
theorem BI.free {w : Nat → Nat} {ws : List Nat} {b k jb : Nat} (h : BI R m n has a w ws) (hb : ws[jb]? = some b) (hk : k < n) (hR : R b k = true) (h0 : ¬ 0 < w k) (hh : ¬ 0 < holdN has has.length k) :
    BI R m n has a (fset w k (b + 1)) ws := by
  refine ⟨h.head, h.bnd, h.nodup, ?_, ?_, ?_, ?_⟩
  · intro j x hj hj0
    obtain ⟨k', j', hk', hv, hw, hlt, hj'⟩ := h.came j x hj hj0
    have hne : k' ≠ k := fun e => by subst e; exact h0 hw
    exact ⟨k', j', hk', hv, by rw [fset_other hne]; exact hw, hlt, by rw [fset_other hne]; exact hj'⟩
  · intro k' hw
    by_cases e : k' = k
    · subst e
      rw [fset_same]
      exact ⟨hk, by simpa using List.mem_iff_getElem?.2 ⟨jb, hb⟩, by simpa using hR⟩
    · rw [fset_other e] at hw ⊢
      exact h.byok k' hw
  · have := cnt_fset (x := b + 1) hk h0 (by omega)
    have := h.full
    omega
  · intro k' hw hh'
    by_cases e : k' = k
    · subst e; exact absurd hh' hh
    · rw [fset_other e] at hw
      exact h.held k' hw hh'
def Free (has : List Int) (w : Nat → Nat) : Prop := ∀ k, 0 < w k → 0 < holdN has has.length k
theorem scan_ok (hF : FitR R m n has) (ha : has.getD a (-1) = -1) {b jb : Nat} : ∀ (ks : List Nat) (w : Nat → Nat) (ws : List Nat), BI R m n has a w ws → Free has w → ws[jb]? = some b → (∀ k ∈ ks, k < n ∧ R b k = true) →
    ∃ (o : Option Nat) (w' : Nat → Nat) (ws' : List Nat), scanR (holdN has has.length) b ks w ws = (o, w', ws') ∧ BI R m n has a w' ws' ∧ (∃ ext, ws' = ws ++ ext) ∧ (∀ k, 0 < w k → 0 < w' k) ∧
      (o = none → Free has w' ∧ ∀ k ∈ ks, 0 < w' k) ∧ (∀ k, o = some k → 0 < w' k ∧ holdN has has.length k = 0)
  | [], w, ws, h, hf, hb, hk => ⟨none, w, ws, rfl, h, ⟨[], by simp⟩, fun _ h => h, fun _ => ⟨hf, by simp⟩, fun k e => by cases e⟩
  | k :: ks, w, ws, h, hf, hb, hk => by
    have hk0 := hk k (by simp)
    have hks : ∀ k ∈ ks, k < n ∧ R b k = true := fun x hx => hk x (by simp [hx])
    by_cases h0 : 0 < w k
    · obtain ⟨o, w', ws', he, h1, h2, h3, h4, h5⟩ := scan_ok hF ha ks w ws h hf hb hks
      refine ⟨o, w', ws', by rw [scanR, if_pos h0]; exact he, h1, h2, h3, fun e => ⟨(h4 e).1, fun x hx => ?_⟩, h5⟩
      rcases List.mem_cons.1 hx with rfl | hx
      · exact h3 _ h0
      · exact (h4 e).2 x hx
    · by_cases hh : 0 < holdN has has.length k
      · have hT := h.take hF ha hb hk0.1 hk0.2 h0 hh
        obtain ⟨o, w', ws', he, h1, ⟨ext, h2⟩, h3, h4, h5⟩ := scan_ok hF ha ks _ _ hT (fun k' hw => by
          by_cases e : k' = k
          · subst e; exact hh
          · rw [fset_other e] at hw; exact hf k' hw) (get_app_old hb) hks
        have hmono : ∀ k', 0 < w k' → 0 < w' k' := fun k' hw => h3 k' (by
          by_cases e : k' = k
          · subst e; rw [fset_same]; omega
          · rw [fset_other e]; exact hw)
        refine ⟨o, w', ws', by rw [scanR, if_neg h0, if_pos hh]; exact he, h1, ⟨[holdN has has.length k - 1] ++ ext, by rw [h2]; simp⟩, hmono, fun e => ⟨(h4 e).1, fun x hx => ?_⟩, h5⟩
        rcases List.mem_cons.1 hx with rfl | hx
        · exact h3 _ (by rw [fset_same]; omega)
        · exact (h4 e).2 x hx
      · refine ⟨some k, fset w k (b + 1), ws, by rw [scanR, if_neg h0, if_neg hh], h.free hb hk0.1 hk0.2 h0 hh, ⟨[], by simp⟩, fun k' hw => ?_, fun e => (by cases e), fun k' e => ?_⟩
        · by_cases e : k' = k
          · subst e; rw [fset_same]; omega
          · rw [fset_other e]; exact hw
        · cases e; exact ⟨by rw [fset_same]; omega, by omega⟩
/-- All rows of those who stand ahead of place j have been gone through. -/
def Done (R : Nat → Nat → Bool) (n : Nat) (w : Nat → Nat) (ws : List Nat) (j : Nat) : Prop := ∀ (i b : Nat), i < j → ws[i]? = some b → ∀ k, k < n → R b k = true → 0 < w k
theorem bfs_ok (hn : n ≤ 8) (hF : FitR R m n has) (ha : has.getD a (-1) = -1) : ∀ (f j : Nat) (w : Nat → Nat) (ws : List Nat), j + f = 9 → BI R m n has a w ws → Free has w → Done R n w ws j →
    ∃ (o : Option Nat) (w' : Nat → Nat) (ws' : List Nat), bfsR R n (holdN has has.length) f j w ws = (o, w', ws') ∧ BI R m n has a w' ws' ∧
      (o = none → Free has w' ∧ Done R n w' ws' ws'.length) ∧ (∀ k, o = some k → 0 < w' k ∧ holdN has has.length k = 0)
  | 0, j, w, ws, hj, h, hf, hd => ⟨none, w, ws, rfl, h, fun _ => ⟨hf, fun i b hi hb => by have := h.len; exact hd i b (by omega) hb⟩, fun k e => by cases e⟩
  | f + 1, j, w, ws, hj, h, hf, hd => by
    by_cases hlt : j < ws.length
    · have hb : ws[j]? = some (ws.getD j 0) := by simp [hlt]
      obtain ⟨o, w', ws', he, h1, ⟨ext, h2⟩, h3, h4, h5⟩ := scan_ok hF ha (rowN n (R (ws.getD j 0))) w ws h hf hb (fun k hk => mem_rowN.1 hk)
      cases o with
      | some k => exact ⟨some k, w', ws', by rw [bfsR, if_pos hlt, he], h1, fun e => (by cases e), h5⟩
      | none =>
        have hd' : Done R n w' ws' (j + 1) := by
          intro i b hi hb' k hk hR
          rw [h2] at hb'
          by_cases hij : i = j
          · subst hij
            rw [List.getElem?_append_left hlt, hb] at hb'
            cases hb'
            exact (h4 rfl).2 k (mem_rowN.2 ⟨hk, hR⟩)
          · rw [List.getElem?_append_left (by omega)] at hb'
            exact h3 k (hd i b (by omega) hb' k hk hR)
        obtain ⟨o, w'', ws'', he', h1', h4', h5'⟩ := bfs_ok hn hF ha f (j + 1) w' ws' (by omega) h1 (h4 rfl).1 hd'
        exact ⟨o, w'', ws'', by rw [bfsR, if_pos hlt, he]; exact he', h1', h4', h5'⟩
    · exact ⟨none, w, ws, by rw [bfsR, if_neg hlt], h, fun _ => ⟨hf, fun i b hi hb => hd i b (by omega) hb⟩, fun k e => by cases e⟩

/-- The items go on from one to the next, back to where the search began. -/
theorem aug_ok {has : List Int} {w : Nat → Nat} {ws : List Nat} (hF0 : FitR R m n has) (ha : has.getD a (-1) = -1) (h : BI R m n has a w ws) : ∀ (f : Nat) (k : Nat) (cur : List Int) (j : Nat), j < f → FitR R m n cur → 0 < w k → (∀ i, i < m → cur.getD i (-1) ≠ (k : Int)) →
    ws[j]? = some (w k - 1) → (∀ j' b, j' ≤ j → ws[j']? = some b → cur.getD b (-1) = has.getD b (-1)) →
    FitR R m n (augR w f (k : Int) cur) ∧ ∀ i, i < m → ((augR w f (k : Int) cur).getD i (-1) = -1 ↔ cur.getD i (-1) = -1 ∧ i ≠ a)
  | f + 1, k, cur, j, hj, hF, hw, hno, hpos, hsame => by
    have hne : ¬ ((k : Int) = -1) := by omega
    have hi : w k - 1 < m := h.bnd _ (List.mem_iff_getElem?.2 ⟨j, hpos⟩)
    obtain ⟨hkn, hmem, hRk⟩ := h.byok k hw
    rw [augR, if_neg hne]
    simp only [Int.toNat_natCast]
    obtain ⟨i, hie⟩ : ∃ i, i = w k - 1 := ⟨_, rfl⟩
    rw [← hie] at hi hmem hRk hpos ⊢
    have hil : i < cur.length := by rw [hF.len]; exact hi
    have hF' : FitR R m n (cur.set i (k : Int)) := by
      refine ⟨by rw [List.length_set]; exact hF.len, fun x hx => ?_, fun x y hx hy hxy hx1 => ?_⟩
      · rw [getD_setI _ _ _ _ hil]
        by_cases e : x = i
        · subst e; rw [if_pos rfl]; exact .inr ⟨k, hkn, rfl, hRk⟩
        · rw [if_neg e]; exact hF.ok x hx
      · rw [getD_setI _ _ _ _ hil, getD_setI _ _ _ _ hil] at hxy
        rw [getD_setI _ _ _ _ hil] at hx1
        by_cases e : x = i <;> by_cases e2 : y = i
        · omega
        · rw [if_pos e, if_neg e2] at hxy
          exact absurd hxy.symm (hno y hy)
        · rw [if_neg e, if_pos e2] at hxy
          exact absurd hxy (hno x hx)
        · rw [if_neg e, if_neg e2] at hxy
          rw [if_neg e] at hx1
          exact hF.inj x y hx hy hxy hx1
    have hcur : cur.getD i (-1) = has.getD i (-1) := hsame j i (Nat.le_refl _) hpos
    by_cases hj0 : j = 0
    · subst hj0
      have hia : i = a := by rw [h.head] at hpos; cases hpos; rfl
      have hold : cur.getD i (-1) = -1 := by rw [hcur, hia]; exact ha
      rw [hold]
      have hstop : ∀ f l, augR w f (-1) l = l := fun f l => by cases f <;> simp [augR]
      rw [hstop]
      refine ⟨hF', fun x hx => ?_⟩
      rw [getD_setI _ _ _ _ hil]
      by_cases e : x = i
      · rw [if_pos e]
        constructor
        · intro hh; omega
        · rintro ⟨_, hh⟩; exact absurd (e.trans hia) hh
      · rw [if_neg e]
        constructor
        · intro hh; exact ⟨hh, fun e2 => e (e2.trans hia.symm)⟩
        · exact fun hh => hh.1
    · obtain ⟨k', j', hk', hv, hw', hlt, hj'⟩ := h.came j i hpos (by omega)
      rw [hcur, hv]
      have hino : ∀ x, x < m → (cur.set i (k : Int)).getD x (-1) ≠ (k' : Int) := by
        intro x hx hh
        rw [getD_setI _ _ _ _ hil] at hh
        by_cases e : x = i
        · rw [if_pos e] at hh
          have : cur.getD i (-1) = (k : Int) := by rw [hcur, hv, hh]
          exact hno i hi this
        · rw [if_neg e] at hh
          exact e (hF.inj x i hx hi (by rw [hh, hcur, hv]) (by rw [hh]; omega))
      have hs' : ∀ j'' b, j'' ≤ j' → ws[j'']? = some b → (cur.set i (k : Int)).getD b (-1) = has.getD b (-1) := by
        intro j'' b hle hb
        have hbi : b ≠ i := fun e => by
          subst e
          have := h.nodup j'' j b hb hpos
          omega
        rw [getD_setI _ _ _ _ hil, if_neg hbi]
        exact hsame j'' b (by omega) hb
      obtain ⟨r1, r2⟩ := aug_ok hF0 ha h f k' (cur.set i (k : Int)) j' (by omega) hF' hw' hino hj' hs'
      refine ⟨r1, fun x hx => ?_⟩
      rw [r2 x hx, getD_setI _ _ _ _ hil]
      by_cases e : x = i
      · rw [if_pos e]
        constructor
        · rintro ⟨hh, _⟩; omega
        · rintro ⟨hh, _⟩; rw [e, hcur, hv] at hh; omega
      · rw [if_neg e]

theorem more_some (hn : n ≤ 8) (hF : FitR R m n has) (ham : a < m) (ha : has.getD a (-1) = -1) {out : List Int} (he : moreR R n has a = some out) :
    FitR R m n out ∧ ∀ i, i < m → (out.getD i (-1) = -1 ↔ has.getD i (-1) = -1 ∧ i ≠ a) := by
  obtain ⟨o, w', ws', hb, h1, h4, h5⟩ := bfs_ok hn hF ha 9 0 (fun _ => 0) [a] (by omega) (BI.start ham) (fun k (h : 0 < 0) => by omega) (fun i b hi => by omega)
  unfold moreR at he
  rw [hb] at he
  cases o with
  | none => cases he
  | some k =>
    cases he
    obtain ⟨hw, hh⟩ := h5 k rfl
    obtain ⟨_, hmem, _⟩ := h1.byok k hw
    obtain ⟨j, hj⟩ := idx_of hmem
    have hjl := (List.getElem?_eq_some_iff.1 hj).1
    have := h1.len
    exact aug_ok hF ha h1 9 k has j (by omega) hF hw (fun i hi => holdN_zero hh i (by rw [hF.len]; exact hi)) hj (fun _ _ _ _ => rfl)
theorem more_none (hn : n ≤ 8) (hF : FitR R m n has) (ham : a < m) (ha : has.getD a (-1) = -1) (he : moreR R n has a = none) :
    ∃ T : Nat → Bool, T a = true ∧ (∀ i, T i = true → i < m) ∧ (∀ i, T i = true → i ≠ a → has.getD i (-1) ≠ -1) ∧ ∀ i k, T i = true → k < n → R i k = true → ∃ j, T j = true ∧ j ≠ a ∧ has.getD j (-1) = (k : Int) := by
  obtain ⟨o, w', ws', hb, h1, h4, h5⟩ := bfs_ok hn hF ha 9 0 (fun _ => 0) [a] (by omega) (BI.start ham) (fun k (h : 0 < 0) => by omega) (fun i b hi => by omega)
  unfold moreR at he
  rw [hb] at he
  cases o with
  | some k => cases he
  | none =>
    obtain ⟨hf, hd⟩ := h4 rfl
    refine ⟨fun i => decide (i ∈ ws'), ?_, ?_, ?_, ?_⟩
    · simp; exact List.mem_iff_getElem?.2 ⟨0, h1.head⟩
    · intro i hi; simp at hi; exact h1.bnd i hi
    · intro i hi hia
      simp at hi
      obtain ⟨j, hj⟩ := idx_of hi
      by_cases hj0 : j = 0
      · subst hj0; rw [h1.head] at hj; cases hj; exact absurd rfl hia
      · obtain ⟨k', _, _, hv, _⟩ := h1.came j i hj (by omega)
        rw [hv]; omega
    · intro i k hi hk hR
      simp at hi
      obtain ⟨j, hj⟩ := idx_of hi
      have hw := hd j i (List.getElem?_eq_some_iff.1 hj).1 hj k hk hR
      have hh := hf k hw
      have hp := holdN_pos hh
      refine ⟨holdN has has.length k - 1, by simpa using h1.held k hw hh, fun e => ?_, hp.2⟩
      rw [e, ha] at hp
      have := hp.2
      omega
end search
end Go.Proofs.Ytkhnohnkcdcajaa.Sal
