/- Plain: bidders that share no items with others: the matching of all is those of both, side by side. -/
import Derived.Test.YtkhnohnkcdcajaaGM2
namespace Go.Proofs.Ytkhnohnkcdcajaa.Sal
set_option linter.all false
theorem getD_appL {a b : List Int} {i : Nat} (h : i < a.length) : (a ++ b).getD i (-1) = a.getD i (-1) := by
  simp [List.getD_eq_getElem?_getD, List.getElem?_append_left h]
theorem getD_appR {a b : List Int} {i : Nat} : (a ++ b).getD (a.length + i) (-1) = b.getD i (-1) := by
  simp [List.getD_eq_getElem?_getD, List.getElem?_append_right]
theorem getD_rep {r i : Nat} : (List.replicate r (-1 : Int)).getD i (-1) = -1 := by
  by_cases hj : i < r <;> simp [List.getD_eq_getElem?_getD, List.getElem?_replicate, hj]
theorem holdN_congr {a b : List Int} {k : Nat} : ∀ {j : Nat}, (∀ i, i < j → a.getD i (-1) = b.getD i (-1)) → holdN a j k = holdN b j k
  | 0, _ => rfl
  | j + 1, h => by
    unfold holdN
    rw [h j (by omega), holdN_congr (fun i hi => h i (by omega))]
theorem holdN_none {a : List Int} {k : Nat} : ∀ {j : Nat}, (∀ i, i < j → a.getD i (-1) ≠ (k : Int)) → holdN a j k = 0
  | 0, _ => rfl
  | j + 1, h => by
    unfold holdN
    rw [if_neg (h j (by omega)), holdN_none (fun i hi => h i (by omega))]
theorem holdN_pad (has : List Int) (k r : Nat) : ∀ j, holdN (has ++ List.replicate r (-1)) (has.length + j) k = holdN has has.length k
  | 0 => holdN_congr fun i hi => getD_appL hi
  | j + 1 => by
    show (if (has ++ List.replicate r (-1)).getD (has.length + j) (-1) = (k : Int) then has.length + j + 1 else holdN (has ++ List.replicate r (-1)) (has.length + j) k) = _
    rw [getD_appR, getD_rep, if_neg (by omega), holdN_pad has k r j]
theorem augR_app {w : Nat → Nat} (ext : List Int) : ∀ (f : Nat) (k : Int) (cur : List Int), (∀ k, w k - 1 < cur.length) → augR w f k (cur ++ ext) = augR w f k cur ++ ext
  | 0, _, _, _ => rfl
  | f + 1, k, cur, h => by
    by_cases hk : k = -1
    · simp [augR, hk]
    · rw [augR, augR, if_neg hk, if_neg hk, getD_appL (h _), List.set_append_left _ _ (h _)]
      exact augR_app ext f _ _ (fun k => by rw [List.length_set]; exact h k)
theorem moreR_pad {R : Nat → Nat → Bool} {m n : Nat} (hn : n ≤ 8) {has : List Int} {a : Nat} (hF : FitR R m n has) (ham : a < m) (ha : has.getD a (-1) = -1) (r : Nat) :
    moreR R n (has ++ List.replicate r (-1)) a = (moreR R n has a).map (· ++ List.replicate r (-1)) := by
  have hh : holdN (has ++ List.replicate r (-1)) (has ++ List.replicate r (-1)).length = holdN has has.length := by
    funext k; rw [List.length_append, List.length_replicate]; exact holdN_pad has k r r
  obtain ⟨o, w', ws', hb, h1, _, _⟩ := bfs_ok hn hF ha 9 0 (fun _ => 0) [a] (by omega) (BI.start ham) (fun k (h : 0 < 0) => by omega) (fun i b hi => by omega)
  unfold moreR
  rw [hh, hb]
  cases o with
  | none => rfl
  | some k =>
    show some _ = some _
    rw [augR_app]
    intro k
    rcases Nat.eq_zero_or_pos (w' k) with h0 | h0
    · rw [h0, hF.len]; omega
    · rw [hF.len]; exact h1.bnd _ (h1.byok k h0).2.1
theorem mostN_pad {R : Nat → Nat → Bool} {m n : Nat} (hn : n ≤ 8) (r : Nat) : ∀ i, i ≤ m → mostN R (m + r) n i = mostN R m n i ++ List.replicate r (-1)
  | 0, _ => by simp [mostN, List.replicate_append_replicate]
  | i + 1, hi => by
    have ih := mostN_pad (R := R) (m := m) hn r i (by omega)
    have h := mi_all (R := R) (m := m) hn i (by omega)
    have hp := moreR_pad hn h.fit (show i < m by omega) (most_none h) r
    simp only [mostN]
    rw [ih, hp]
    cases moreR R n (mostN R m n i) i <;> simp

/-! ### The others: the same, further on -/
def upc (c x : Nat) : Nat := if 0 < x then c + x else 0
theorem upc_pos {c x : Nat} : 0 < upc c x ↔ 0 < x := by
  unfold upc
  by_cases h : 0 < x
  · rw [if_pos h]; omega
  · rw [if_neg h]; omega
theorem upc_of {c x : Nat} (h : 0 < x) : upc c x = c + x := if_pos h
theorem fset_upc {c : Nat} {w w' : Nat → Nat} (h : ∀ k, w k = upc c (w' k)) (q b : Nat) : ∀ k, fset w q (c + b + 1) k = upc c (fset w' q (b + 1) k) := by
  intro k
  by_cases e : k = q
  · subst e; rw [fset_same, fset_same, upc_of (by omega)]; omega
  · rw [fset_other e, fset_other e]; exact h k
theorem scan_sh {c b : Nat} {hold hold' : Nat → Nat} : ∀ (ks : List Nat) (w w' : Nat → Nat) (ws : List Nat), (∀ k ∈ ks, hold k = upc c (hold' k)) → (∀ k, w k = upc c (w' k)) →
    ∃ o w1 w1' ws1, scanR hold' b ks w' ws = (o, w1', ws1) ∧ scanR hold (c + b) ks w (ws.map (c + ·)) = (o, w1, ws1.map (c + ·)) ∧ ∀ k, w1 k = upc c (w1' k)
  | [], w, w', ws, _, h => ⟨none, w, w', ws, rfl, rfl, h⟩
  | k :: ks, w, w', ws, hh, h => by
    have hk := hh k (by simp)
    have hks : ∀ k ∈ ks, hold k = upc c (hold' k) := fun x hx => hh x (by simp [hx])
    by_cases h0 : 0 < w' k
    · obtain ⟨o, w1, w1', ws1, e1, e2, e3⟩ := scan_sh (b := b) ks w w' ws hks h
      refine ⟨o, w1, w1', ws1, by rw [scanR, if_pos h0]; exact e1, ?_, e3⟩
      rw [scanR, if_pos (by rw [h k]; exact upc_pos.2 h0)]; exact e2
    · have h0' : ¬ 0 < w k := by rw [h k, upc_pos]; exact h0
      by_cases h1 : 0 < hold' k
      · have h1' : 0 < hold k := by rw [hk, upc_pos]; exact h1
        obtain ⟨o, w1, w1', ws1, e1, e2, e3⟩ := scan_sh (b := b) ks (fset w k (c + b + 1)) (fset w' k (b + 1)) (ws ++ [hold' k - 1]) hks (fset_upc h k b)
        refine ⟨o, w1, w1', ws1, by rw [scanR, if_neg h0, if_pos h1]; exact e1, ?_, e3⟩
        rw [scanR, if_neg h0', if_pos h1']
        have e : hold k - 1 = c + (hold' k - 1) := by rw [hk, upc_of h1]; omega
        rw [e]
        rw [List.map_append] at e2
        exact e2
      · have h1' : ¬ 0 < hold k := by rw [hk, upc_pos]; exact h1
        exact ⟨some k, fset w k (c + b + 1), fset w' k (b + 1), ws, by rw [scanR, if_neg h0, if_neg h1], by rw [scanR, if_neg h0', if_neg h1'], fset_upc h k b⟩
theorem bfs_sh {R : Nat → Nat → Bool} {n c : Nat} {hold hold' : Nat → Nat} (hh : ∀ b k, R (c + b) k = true → hold k = upc c (hold' k)) : ∀ (f j : Nat) (w w' : Nat → Nat) (ws : List Nat), (∀ k, w k = upc c (w' k)) →
    ∃ o w1 w1' ws1, bfsR (fun i k => R (c + i) k) n hold' f j w' ws = (o, w1', ws1) ∧ bfsR R n hold f j w (ws.map (c + ·)) = (o, w1, ws1.map (c + ·)) ∧ ∀ k, w1 k = upc c (w1' k)
  | 0, _, w, w', ws, h => ⟨none, w, w', ws, rfl, rfl, h⟩
  | f + 1, j, w, w', ws, h => by
    by_cases hj : j < ws.length
    · have hb : (ws.map (c + ·)).getD j 0 = c + ws.getD j 0 := by simp [List.getD_eq_getElem?_getD, hj]
      obtain ⟨o, w1, w1', ws1, e1, e2, e3⟩ := scan_sh (b := ws.getD j 0) (rowN n (R (c + ws.getD j 0))) w w' ws (fun k hk => hh _ k (mem_rowN.1 hk).2) h
      cases o with
      | some k =>
        refine ⟨some k, w1, w1', ws1, ?_, ?_, e3⟩
        · rw [bfsR, if_pos hj, e1]
        · rw [bfsR, if_pos (by simpa using hj), hb, e2]
      | none =>
        obtain ⟨o, w2, w2', ws2, f1, f2, f3⟩ := bfs_sh hh f (j + 1) w1 w1' ws1 e3
        refine ⟨o, w2, w2', ws2, ?_, ?_, f3⟩
        · rw [bfsR, if_pos hj, e1]; exact f1
        · rw [bfsR, if_pos (by simpa using hj), hb, e2]; exact f2
    · exact ⟨none, w, w', ws, by rw [bfsR, if_neg hj], by rw [bfsR, if_neg (by simpa using hj)], h⟩
theorem aug_sh {one : List Int} {w w' : Nat → Nat} {ws : List Nat} {m : Nat} (h : ∀ k, w k = upc one.length (w' k)) (hb : ∀ k, 0 < w' k → (w' k - 1) ∈ ws ∧ w' k - 1 < m) : ∀ (f : Nat) (k : Int) (cur : List Int), cur.length = m →
    (k = -1 ∨ ∃ q : Nat, k = (q : Int) ∧ 0 < w' q) → (∀ b ∈ ws, cur.getD b (-1) = -1 ∨ ∃ q : Nat, cur.getD b (-1) = (q : Int) ∧ 0 < w' q) → augR w f k (one ++ cur) = one ++ augR w' f k cur
  | 0, _, _, _, _, _ => rfl
  | f + 1, k, cur, hl, hk, hc => by
    rcases hk with hk | ⟨q, rfl, hq⟩
    · simp [augR, hk]
    · have hne : ¬ ((q : Int) = -1) := by omega
      obtain ⟨h1, h2⟩ := hb q hq
      rw [augR, augR, if_neg hne, if_neg hne]
      simp only [Int.toNat_natCast]
      have e : w q - 1 = one.length + (w' q - 1) := by rw [h q, upc_of hq]; omega
      rw [e, getD_appR]
      have es : (one ++ cur).set (one.length + (w' q - 1)) (q : Int) = one ++ cur.set (w' q - 1) (q : Int) := by
        rw [List.set_append_right _ _ (by omega)]
        congr 2; omega
      rw [es]
      refine aug_sh h hb f _ _ (by rw [List.length_set]; exact hl) (hc _ h1) (fun b hb' => ?_)
      rw [getD_setI _ _ _ _ (by omega)]
      by_cases e2 : b = w' q - 1
      · rw [if_pos e2]; exact .inr ⟨q, rfl, hq⟩
      · rw [if_neg e2]; exact hc b hb'
theorem holdN_app {one has : List Int} {k : Nat} (h : ∀ i, i < one.length → one.getD i (-1) ≠ (k : Int)) : ∀ j, holdN (one ++ has) (one.length + j) k = upc one.length (holdN has j k)
  | 0 => by
    have : holdN (one ++ has) one.length k = 0 := holdN_none fun i hi => by rw [getD_appL hi]; exact h i hi
    exact this
  | j + 1 => by
    show (if (one ++ has).getD (one.length + j) (-1) = (k : Int) then one.length + j + 1 else holdN (one ++ has) (one.length + j) k) = upc one.length (if has.getD j (-1) = (k : Int) then j + 1 else holdN has j k)
    rw [getD_appR, holdN_app h j]
    by_cases e : has.getD j (-1) = (k : Int)
    · rw [if_pos e, if_pos e, upc_of (by omega)]; omega
    · rw [if_neg e, if_neg e]
theorem moreR_sh {R : Nat → Nat → Bool} {m n : Nat} (hn : n ≤ 8) {one has : List Int} {a : Nat} (hF : FitR (fun i k => R (one.length + i) k) m n has) (ham : a < m) (ha : has.getD a (-1) = -1)
    (hd : ∀ i b k, i < one.length → R (one.length + b) k = true → one.getD i (-1) ≠ (k : Int)) :
    moreR R n (one ++ has) (one.length + a) = (moreR (fun i k => R (one.length + i) k) n has a).map (one ++ ·) := by
  obtain ⟨o, w', ws', hb, h1, h4, h5⟩ := bfs_ok hn hF ha 9 0 (fun _ => 0) [a] (by omega) (BI.start ham) (fun k (h : 0 < 0) => by omega) (fun i b hi => by omega)
  have hh : ∀ b k, R (one.length + b) k = true → holdN (one ++ has) (one ++ has).length k = upc one.length (holdN has has.length k) := fun b k hR => by
    rw [List.length_append]; exact holdN_app (fun i hi => hd i b k hi hR) _
  obtain ⟨o2, w1, w1', ws1, e1, e2, e3⟩ := bfs_sh (n := n) hh 9 0 (fun _ => 0) (fun _ => 0) [a] (fun k => rfl)
  rw [hb] at e1
  cases e1
  unfold moreR
  have e2' : bfsR R n (holdN (one ++ has) (one ++ has).length) 9 0 (fun _ => 0) [one.length + a] = (o, w1, ws'.map (one.length + ·)) := e2
  rw [e2', hb]
  cases o with
  | none => rfl
  | some k =>
    show some _ = some _
    rw [aug_sh (m := m) e3 (fun q hq => ⟨(h1.byok q hq).2.1, h1.bnd _ (h1.byok q hq).2.1⟩) 9 (k : Int) has hF.len (.inr ⟨k, rfl, (h5 k rfl).1⟩) (fun b hb' => ?_)]
    obtain ⟨j, hj⟩ := idx_of hb'
    by_cases hj0 : j = 0
    · subst hj0
      rw [h1.head] at hj
      cases hj
      exact .inl ha
    · obtain ⟨q, _, _, hv, hw, _⟩ := h1.came j b hj (by omega)
      exact .inr ⟨q, hv, hw⟩
theorem mostN_sh {R : Nat → Nat → Bool} {c m n cut : Nat} (hn : n ≤ 8) (hR : ∀ i k, R i k = true → (k < cut ↔ i < c)) : ∀ j, j ≤ m → mostN R (c + m) n (c + j) = mostR R c n ++ mostN (fun i k => R (c + i) k) m n j
  | 0, _ => by
    have := mostN_pad (R := R) (m := c) hn m c (Nat.le_refl _)
    simpa [mostN, mostR] using this
  | j + 1, hj => by
    have ih := mostN_sh (m := m) hn hR j (by omega)
    have h0 := (mi_all (R := R) (m := c) hn c (Nat.le_refl _)).fit
    have h := mi_all (R := fun i k => R (c + i) k) (m := m) hn j (by omega)
    have hl : (mostR R c n).length = c := h0.len
    have hp := moreR_sh (R := R) (one := mostR R c n) (a := j) hn (by rw [hl]; exact h.fit) (show j < m by omega) (most_none h) (fun i b k hi hRb => by
      rw [hl] at hi hRb
      intro e
      rcases h0.ok i hi with h9 | ⟨q, _, h9, h10⟩
      · have e' : (mostN R c n c).getD i (-1) = (k : Int) := e
        omega
      · have e' : (mostN R c n c).getD i (-1) = (k : Int) := e
        have : q = k := by omega
        subst this
        have a1 := (hR i q h10).2 hi
        have a2 := (hR (c + b) q hRb).1 a1
        omega)
    rw [hl] at hp
    show mostN R (c + m) n (c + j + 1) = _
    simp only [mostN]
    rw [ih, hp]
    cases moreR (fun i k => R (c + i) k) n (mostN (fun i k => R (c + i) k) m n j) j <;> rfl
/-- None of the others hinders them. -/
theorem most_apart {R : Nat → Nat → Bool} {c m n cut : Nat} (hn : n ≤ 8) (hR : ∀ i k, R i k = true → (k < cut ↔ i < c)) : mostR R (c + m) n = mostR R c n ++ mostR (fun i k => R (c + i) k) m n :=
  mostN_sh hn hR m (Nat.le_refl _)
end Go.Proofs.Ytkhnohnkcdcajaa.Sal
