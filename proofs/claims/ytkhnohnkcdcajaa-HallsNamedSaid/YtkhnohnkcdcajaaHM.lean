/- Plain: the sets that are too few: the first of them; Hall's word for them. -/
import Derived.Test.YtkhnohnkcdcajaaH3
namespace Go.Proofs.Ytkhnohnkcdcajaa.Sal
set_option linter.all false
theorem setsR_ahead : ∀ (many : Nat) (ahead : List Int) (frm items : Nat), setsR many ahead frm items = (setsR many [] frm items).map (ahead ++ ·)
  | 0, ahead, _, _ => by simp [setsR]
  | many + 1, ahead, frm, items => by
    unfold setsR
    rw [List.map_flatMap]
    congr 1
    funext d
    rw [setsR_ahead many (ahead ++ [((frm + d : Nat) : Int)]), setsR_ahead many ([] ++ [((frm + d : Nat) : Int)]), List.map_map]
    apply List.map_congr_left
    intro y _
    simp
theorem setsR_cons (many frm items : Nat) : setsR (many + 1) [] frm items = (List.range (items - many - frm)).flatMap fun d => (setsR many [] (frm + d + 1) items).map (((frm + d : Nat) : Int) :: ·) := by
  show ((List.range (items - many - frm)).flatMap fun d => setsR many ([] ++ [((frm + d : Nat) : Int)]) (frm + d + 1) items) = _
  congr 1
  funext d
  rw [setsR_ahead many ([] ++ [((frm + d : Nat) : Int)])]
  rfl
theorem setsR_ris : ∀ (many frm items : Nat) (x : List Int), x ∈ setsR many [] frm items → risB ((frm : Int) - 1) x (items : Int) = true
  | 0, frm, items, x, h => by simp [setsR] at h; subst h; rfl
  | many + 1, frm, items, x, h => by
    rw [setsR_cons] at h
    obtain ⟨d, hd, hx⟩ := List.mem_flatMap.1 h
    obtain ⟨y, hy, rfl⟩ := List.mem_map.1 hx
    have ih := setsR_ris many (frm + d + 1) items y hy
    have hd' : d < items - many - frm := by simpa using hd
    simp only [risB, Bool.and_eq_true, Bool.not_eq_true', Bool.or_eq_false_iff, decide_eq_false_iff_not]
    refine ⟨⟨by omega, by omega⟩, ?_⟩
    have e : ((frm + d + 1 : Nat) : Int) - 1 = ((frm + d : Nat) : Int) := by omega
    rw [e] at ih; exact ih
theorem ris_room : ∀ (x : List Int) (a m : Int), risB a x m = true → a + 1 + (x.length : Int) ≤ m ∨ x = []
  | [], _, _, _ => .inr rfl
  | q :: x, a, m, h => by
    left
    simp only [risB, Bool.and_eq_true, Bool.not_eq_true', Bool.or_eq_false_iff, decide_eq_false_iff_not] at h
    rcases ris_room x q m h.2 with h1 | h1
    · simp; omega
    · subst h1; simp; omega
theorem setsR_all : ∀ (x : List Int) (frm items : Nat), risB ((frm : Int) - 1) x (items : Int) = true → x ∈ setsR x.length [] frm items
  | [], _, _, _ => by simp [setsR]
  | q :: x, frm, items, h => by
    have hroom := ris_room _ _ _ h
    simp only [risB, Bool.and_eq_true, Bool.not_eq_true', Bool.or_eq_false_iff, decide_eq_false_iff_not] at h
    obtain ⟨d, hd⟩ : ∃ d : Nat, q = ((frm + d : Nat) : Int) := ⟨(q - frm).toNat, by omega⟩
    subst hd
    rw [List.length_cons, setsR_cons, List.mem_flatMap]
    have e : ((frm + d : Nat) : Int) = ((frm + d + 1 : Nat) : Int) - 1 := by omega
    have h2 := h.2
    rw [e] at h2
    refine ⟨d, ?_, List.mem_map.2 ⟨x, setsR_all x (frm + d + 1) items h2, rfl⟩⟩
    rw [List.mem_range]
    rcases ris_room _ _ _ h.2 with h3 | h3
    · omega
    · subst h3; simp; omega
/-- Does one list stand ahead of another that is as long? -/
def lexB : List Int → List Int → Bool
  | a :: x, b :: y => if a = b then lexB x y else decide (a < b)
  | _, _ => false
theorem lexB_self : ∀ x : List Int, lexB x x = false
  | [] => rfl
  | a :: x => by simp [lexB, lexB_self x]
theorem setsR_sort : ∀ (many frm items : Nat), (setsR many [] frm items).Pairwise (fun a b => lexB b a = false)
  | 0, _, _ => by simp [setsR]
  | many + 1, frm, items => by
    rw [setsR_cons, List.pairwise_flatMap]
    constructor
    · intro d _
      rw [List.pairwise_map]
      refine (setsR_sort many (frm + d + 1) items).imp ?_
      intro a b h
      simp [lexB, h]
    · refine List.pairwise_lt_range.imp ?_
      intro d e hde x hx y hy
      obtain ⟨x', _, rfl⟩ := List.mem_map.1 hx
      obtain ⟨y', _, rfl⟩ := List.mem_map.1 hy
      have h1 : ¬ ((frm + e : Nat) : Int) = ((frm + d : Nat) : Int) := by omega
      simp only [lexB]
      rw [if_neg h1]
      exact decide_eq_false (by omega)
section few
variable {R : Nat → Nat → Bool} {m nn : Nat} {sl : List Int}
theorem fewUp_none {k : Nat} (h : fewUp R nn sl k = none) {x : List Int} (hx : risB (-1) x (nn : Int) = true) (hl : x.length = k) : fewB R nn sl x = false := by
  unfold fewUp at h
  rw [List.find?_eq_none] at h
  have hm := setsR_all x 0 nn (by simpa using hx)
  rw [hl] at hm
  have := h x hm
  simpa using this
theorem fewUp_some {k : Nat} {l : List Int} (h : fewUp R nn sl k = some l) : l.length = k ∧ risB (-1) l (nn : Int) = true ∧ fewB R nn sl l = true ∧ ∀ x, risB (-1) x (nn : Int) = true → x.length = k → lexB x l = true → fewB R nn sl x = false := by
  unfold fewUp at h
  have hm := List.mem_of_find?_eq_some h
  have h1 := setsR_len k [] 0 nn l hm
  have h2 := setsR_ris k 0 nn l hm
  refine ⟨by simpa using h1, by simpa using h2, List.find?_some h, fun x hx hl hlex => ?_⟩
  obtain ⟨_, pr, bs, hL, has⟩ := List.find?_eq_some_iff_append.1 h
  have hxm := setsR_all x 0 nn (by simpa using hx)
  rw [hl] at hxm
  have hsort := setsR_sort k 0 nn
  rw [hL] at hxm hsort
  rcases List.mem_append.1 hxm with h3 | h3
  · have := has x h3; simpa using this
  · rcases List.mem_cons.1 h3 with rfl | h3
    · rw [lexB_self] at hlex; cases hlex
    · have h4 := (List.pairwise_append.1 hsort).2.1
      have h5 := (List.pairwise_cons.1 h4).1 x h3
      rw [h5] at hlex; cases hlex
theorem fewTo_noneAll : ∀ {k : Nat}, fewTo R nn sl k = none → ∀ x, risB (-1) x (nn : Int) = true → x.length < k → fewB R nn sl x = false
  | k + 1, h, x, hx, hl => by
    cases h0 : fewTo R nn sl k with
    | some l => simp only [fewTo, h0] at h; cases h
    | none =>
      simp only [fewTo, h0] at h
      by_cases e : x.length = k
      · exact fewUp_none h hx e
      · exact fewTo_noneAll h0 x hx (by omega)
theorem fewTo_first : ∀ {k : Nat} {l : List Int}, fewTo R nn sl k = some l → risB (-1) l (nn : Int) = true ∧ fewB R nn sl l = true ∧ (∀ x, risB (-1) x (nn : Int) = true → x.length < l.length → fewB R nn sl x = false) ∧ ∀ x, risB (-1) x (nn : Int) = true → x.length = l.length → lexB x l = true → fewB R nn sl x = false
  | k + 1, l, h => by
    cases h0 : fewTo R nn sl k with
    | some l' =>
      simp only [fewTo, h0] at h
      cases h
      exact fewTo_first h0
    | none =>
      simp only [fewTo, h0] at h
      obtain ⟨h1, h2, h3, h4⟩ := fewUp_some h
      exact ⟨h2, h3, fun x hx hl => fewTo_noneAll h0 x hx (by omega), fun x hx hl => h4 x hx (by omega)⟩
theorem few_all (h : fewTo R nn sl (nn + 1) = none) {x : List Int} (hx : risB (-1) x (nn : Int) = true) : fewB R nn sl x = false :=
  fewTo_noneAll h x hx (by have := ris_len hx; omega)
/-! ### Hall -/
theorem wantB_iff {l : List Int} {i : Nat} : wantB R nn l i = true ↔ ∀ k, k < nn → R i k = true → l.contains (k : Int) = true := by
  unfold wantB
  rw [Bool.not_eq_true', List.any_eq_false]
  constructor
  · intro h k hk hR
    have := h (k : Int) (List.contains_iff_mem.1 ((rowL_has nn (R i) (k : Int)).2 ⟨k, hk, hR, rfl⟩))
    simpa using this
  · intro h q hq
    obtain ⟨k, hk, hR, rfl⟩ := (rowL_has nn (R i) q).1 (List.contains_iff_mem.2 hq)
    have h9 := h k hk hR
    rw [h9]; simp
theorem filt_cnt (p : Nat → Bool) : ∀ (m : Nat) (s : Nat → Bool), ((rowL m s).filter fun q => p q.toNat).length = cnt (fun i => s i && p i) m
  | 0, s => rfl
  | m + 1, s => by
    rw [rowL_step, List.filter_append, List.length_append, filt_cnt p m s]
    show _ = cnt (fun i => s i && p i) m + (if (s m && p m) = true then 1 else 0)
    congr 1
    cases hs : s m <;> cases hp : p m <;> simp [hp]
theorem withN_cnt (hs : risB (-1) sl (m : Int) = true) (l : List Int) : withN R nn sl l = cnt (fun i => sl.contains (i : Int) && wantB R nn l i) m := by
  unfold withN
  have h := ris_rowL hs
  conv => lhs; rw [h]
  exact filt_cnt (wantB R nn l) m _
theorem ris_cnt {l : List Int} (h : risB (-1) l (nn : Int) = true) : cnt (fun k => l.contains (k : Int)) nn = l.length := cnt_some h
/-- Where all can have one no set is too few. -/
theorem all_noFew (hn : nn ≤ 8) (hs : risB (-1) sl (m : Int) = true) (h : rkm (Rsome sl R) m nn = sl.length) {l : List Int} (hl : risB (-1) l (nn : Int) = true) : fewB R nn sl l = false := by
  have h1 := rkm_hall (R := R) (m := m) hn (fun i => sl.contains (i : Int))
  rw [cnt_some hs] at h1
  have h2 := h1.2.1 h (fun i => sl.contains (i : Int) && wantB R nn l i) (fun i hi => by simp only [Bool.and_eq_true] at hi; exact hi.1)
  have h3 : cnt (nb R m (fun i => sl.contains (i : Int) && wantB R nn l i)) nn ≤ cnt (fun k => l.contains (k : Int)) nn := cnt_le nn fun k hk hb => by
    obtain ⟨i, _, hi, hR⟩ := nb_iff.1 hb
    simp only [Bool.and_eq_true] at hi
    exact wantB_iff.1 hi.2 k hk hR
  rw [ris_cnt hl] at h3
  unfold fewB
  rw [withN_cnt hs]
  exact decide_eq_false (by omega)
/-- Where not all can there are some. -/
theorem noAll_few (hn : nn ≤ 8) (hs : risB (-1) sl (m : Int) = true) (h : rkm (Rsome sl R) m nn ≠ sl.length) : ∃ l, risB (-1) l (nn : Int) = true ∧ fewB R nn sl l = true := by
  have h1 := rkm_hall (R := R) (m := m) hn (fun i => sl.contains (i : Int))
  rw [cnt_some hs] at h1
  by_cases hh : ∀ S : Nat → Bool, (∀ i, S i = true → sl.contains (i : Int) = true) → cnt S m ≤ cnt (nb R m S) nn
  · exact absurd (h1.2.2 hh) h
  · simp only [Classical.not_forall] at hh
    obtain ⟨S, hS, hc⟩ := hh
    refine ⟨rowL nn (nb R m S), ris_of hn _, ?_⟩
    have h3 : cnt S m ≤ cnt (fun i => sl.contains (i : Int) && wantB R nn (rowL nn (nb R m S)) i) m := cnt_le m fun i hi hSi => by
      simp only [Bool.and_eq_true]
      refine ⟨hS i hSi, wantB_iff.2 fun k hk hR => (rowL_has nn _ _).2 ⟨k, hk, nb_iff.2 ⟨i, hi, hSi, hR⟩, rfl⟩⟩
    unfold fewB
    rw [withN_cnt hs, rowL_cnt]
    exact decide_eq_true (by omega)
theorem few_iff (hn : nn ≤ 8) (hs : risB (-1) sl (m : Int) = true) : fewTo R nn sl (nn + 1) = none ↔ rkm (Rsome sl R) m nn = sl.length := by
  constructor
  · intro h
    apply Classical.byContradiction
    intro h2
    obtain ⟨l, h3, h4⟩ := noAll_few hn hs h2
    rw [few_all h h3] at h4; cases h4
  · intro h
    cases hf : fewTo R nn sl (nn + 1) with
    | none => rfl
    | some l =>
      obtain ⟨h1, h2, _⟩ := fewTo_first hf
      rw [all_noFew hn hs h h1] at h2; cases h2
theorem fewR_eq (hn : nn ≤ 8) (hs : risB (-1) sl (m : Int) = true) : fewR R m nn sl = fewTo R nn sl (nn + 1) := by
  unfold fewR
  by_cases h : rkm (Rsome sl R) m nn = sl.length
  · rw [if_pos h, (few_iff hn hs).2 h]
  · rw [if_neg h]
end few
end Go.Proofs.Ytkhnohnkcdcajaa.Sal
