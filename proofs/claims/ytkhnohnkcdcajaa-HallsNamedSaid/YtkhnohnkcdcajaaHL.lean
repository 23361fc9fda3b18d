/- Plain: what the laws of the halls say. -/
import Derived.Test.YtkhnohnkcdcajaaH4
namespace Go.Proofs.Ytkhnohnkcdcajaa.Sal
set_option linter.all false
theorem mem_getD {l : List Int} {q : Int} : q ∈ l ↔ ∃ j, j < l.length ∧ l.getD j 0 = q := by
  constructor
  · intro h
    obtain ⟨j, hj⟩ := List.mem_iff_getElem?.1 h
    have h1 := (List.getElem?_eq_some_iff.1 hj).1
    exact ⟨j, h1, by rw [List.getD_eq_getElem?_getD, hj]; rfl⟩
  · rintro ⟨j, hj, rfl⟩
    rw [List.getD_eq_getElem?_getD, List.getElem?_eq_getElem hj]
    exact List.getElem_mem hj
/-- Those whose bits are not set. -/
def restR (sl : List Int) (x : Nat) : Nat → List Int
  | 0 => []
  | i + 1 => restR sl x i ++ (if x.testBit i = true then [] else [sl.getD i 0])
theorem restR_sub (sl : List Int) (x : Nat) : ∀ i, i ≤ sl.length → (restR sl x i).Sublist (sl.take i)
  | 0, _ => by simp [restR]
  | i + 1, h => by
    have ih := restR_sub sl x i (by omega)
    unfold restR
    rw [List.take_succ_eq_append_getElem (by omega)]
    refine List.Sublist.append ih ?_
    have e : sl.getD i 0 = sl[i] := by simp [List.getD_eq_getElem?_getD, show i < sl.length by omega]
    rw [e]
    split
    · exact List.nil_sublist _
    · exact List.Sublist.refl _
theorem restR_len (sl : List Int) (x : Nat) : ∀ i, (lessR sl x i).length + (restR sl x i).length = i
  | 0 => rfl
  | i + 1 => by
    have ih := restR_len sl x i
    unfold lessR restR
    simp only [List.length_append]
    split <;> simp <;> omega
theorem mem_lessR {sl : List Int} {x : Nat} {q : Int} : ∀ {i : Nat}, q ∈ lessR sl x i ↔ ∃ j, j < i ∧ x.testBit j = true ∧ sl.getD j 0 = q
  | 0 => by simp [lessR]
  | i + 1 => by
    unfold lessR
    rw [List.mem_append, mem_lessR]
    constructor
    · rintro (⟨j, h1, h2, h3⟩ | h)
      · exact ⟨j, by omega, h2, h3⟩
      · split at h
        · rename_i hb
          simp at h; exact ⟨i, by omega, hb, h.symm⟩
        · simp at h
    · rintro ⟨j, h1, h2, h3⟩
      by_cases e : j = i
      · subst e; right; rw [if_pos h2, ← h3]; simp
      · exact .inl ⟨j, by omega, h2, h3⟩
theorem mem_restR {sl : List Int} {x : Nat} {q : Int} : ∀ {i : Nat}, q ∈ restR sl x i ↔ ∃ j, j < i ∧ x.testBit j = false ∧ sl.getD j 0 = q
  | 0 => by simp [restR]
  | i + 1 => by
    unfold restR
    rw [List.mem_append, mem_restR]
    constructor
    · rintro (⟨j, h1, h2, h3⟩ | h)
      · exact ⟨j, by omega, h2, h3⟩
      · split at h
        · simp at h
        · rename_i hb
          simp at h; exact ⟨i, by omega, by simpa using hb, h.symm⟩
    · rintro ⟨j, h1, h2, h3⟩
      by_cases e : j = i
      · subst e; right; rw [if_neg (by rw [h2]; simp), ← h3]; simp
      · exact .inl ⟨j, by omega, h2, h3⟩
section
variable {R : Nat → Nat → Bool} {m nn : Nat} {sl : List Int}
/-- Does one want any of a part? -/
def anyB (R : Nat → Nat → Bool) (nn : Nat) (p : List Int) (i : Nat) : Bool := p.any fun k => (rowL nn (R i)).contains k
theorem want_rest {l : List Int} {x : Nat} (hl : risB (-1) l (nn : Int) = true) (i : Nat) : wantB R nn (restR l x l.length) i = (wantB R nn l i && !anyB R nn (lessR l x l.length) i) := by
  rw [Bool.eq_iff_iff, Bool.and_eq_true, Bool.not_eq_true', wantB_iff, wantB_iff]
  unfold anyB
  rw [List.any_eq_false]
  constructor
  · intro h
    constructor
    · intro k hk hR
      have := h k hk hR
      rw [List.contains_iff_mem, mem_restR] at this
      obtain ⟨j, h1, _, h3⟩ := this
      rw [List.contains_iff_mem, mem_getD]
      exact ⟨j, h1, h3⟩
    · intro q hq hc
      obtain ⟨k, hk, hR, rfl⟩ := (rowL_has nn (R i) q).1 hc
      have := h k hk hR
      rw [List.contains_iff_mem, mem_restR] at this
      obtain ⟨j, h1, h2, h3⟩ := this
      obtain ⟨j', h4, h5, h6⟩ := mem_lessR.1 hq
      have := ris_inj hl h1 h4 (by rw [h3, h6])
      subst this
      rw [h2] at h5; cases h5
  · rintro ⟨h1, h2⟩ k hk hR
    have h3 := h1 k hk hR
    rw [List.contains_iff_mem, mem_getD] at h3
    obtain ⟨j, h4, h5⟩ := h3
    rw [List.contains_iff_mem, mem_restR]
    refine ⟨j, h4, ?_, h5⟩
    cases hb : x.testBit j with
    | false => rfl
    | true =>
      exfalso
      exact h2 (k : Int) (mem_lessR.2 ⟨j, h4, hb, h5⟩) ((rowL_has nn (R i) _).2 ⟨k, hk, hR, rfl⟩)
/-- More of those within want any of a part than it has. -/
theorem part_many (hs : risB (-1) sl (m : Int) = true) {l : List Int} {k : Nat} (h : fewTo R nn sl k = some l) {x : Nat} (hp : lessR l x l.length ≠ []) :
    (lessR l x l.length).length < ((sl.filter fun q => wantB R nn l q.toNat).filter fun q => anyB R nn (lessR l x l.length) q.toNat).length := by
  obtain ⟨h1, h2, h3, _⟩ := fewTo_first h
  have hsub : (restR l x l.length).Sublist l := by
    have := restR_sub l x l.length (Nat.le_refl _)
    rwa [List.take_of_length_le (Nat.le_refl _)] at this
  have hlen := restR_len l x l.length
  have hpos : 0 < (lessR l x l.length).length := List.length_pos_iff.2 hp
  have h4 := h3 _ (ris_sub hsub (-1) h1) (by omega)
  unfold fewB at h2 h4
  have h2' := of_decide_eq_true h2
  have h4' := of_decide_eq_false h4
  have hf : withN R nn sl (restR l x l.length) = ((sl.filter fun q => wantB R nn l q.toNat).filter fun q => !anyB R nn (lessR l x l.length) q.toNat).length := by
    unfold withN
    rw [List.filter_filter]
    congr 1
    apply List.filter_congr
    intro q _
    rw [want_rest h1, Bool.and_comm]
  have hsplit : ∀ (L : List Int) (p : Int → Bool), (L.filter p).length + (L.filter fun q => !p q).length = L.length := by
    intro L p
    induction L with
    | nil => rfl
    | cons a L ih => cases hpa : p a <;> simp [hpa] <;> omega
  have := hsplit (sl.filter fun q => wantB R nn l q.toNat) (fun q => anyB R nn (lessR l x l.length) q.toNat)
  unfold withN at h2' h4' hf
  omega
theorem withN_mono {sl2 : List Int} (hs : risB (-1) sl (m : Int) = true) (hs2 : risB (-1) sl2 (m : Int) = true) (hsub : ∀ q, sl.contains q = true → sl2.contains q = true) (l : List Int) : withN R nn sl l ≤ withN R nn sl2 l := by
  rw [withN_cnt hs, withN_cnt hs2]
  refine cnt_le m fun i _ h => ?_
  simp only [Bool.and_eq_true] at h ⊢
  exact ⟨hsub _ h.1, h.2⟩
/-- With more of some there are too few still, and no more of them. -/
theorem few_more (hn : nn ≤ 8) {sl2 l : List Int} (hs : risB (-1) sl (m : Int) = true) (hs2 : risB (-1) sl2 (m : Int) = true) (hsub : ∀ q, sl.contains q = true → sl2.contains q = true) (h : fewR R m nn sl = some l) : ∃ l2, fewR R m nn sl2 = some l2 ∧ l2.length ≤ l.length := by
  rw [fewR_eq hn hs] at h
  obtain ⟨h1, h2, _⟩ := fewTo_first h
  have h3 : fewB R nn sl2 l = true := by
    unfold fewB at h2 ⊢
    have := of_decide_eq_true h2
    have := withN_mono (R := R) (nn := nn) hs hs2 hsub l
    exact decide_eq_true (by omega)
  rw [fewR_eq hn hs2]
  cases hf : fewTo R nn sl2 (nn + 1) with
  | none => rw [few_all hf h1] at h3; cases h3
  | some l2 =>
    refine ⟨l2, rfl, ?_⟩
    obtain ⟨_, _, h5, _⟩ := fewTo_first hf
    rcases Nat.lt_or_ge l.length l2.length with h6 | h6
    · rw [h5 l h1 h6] at h3; cases h3
    · exact h6
/-- The same counts: the same sets. -/
theorem fewTo_congr {R2 : Nat → Nat → Bool} {sl2 : List Int} (h : ∀ l, withN R nn sl l = withN R2 nn sl2 l) : ∀ k, fewTo R nn sl k = fewTo R2 nn sl2 k
  | 0 => rfl
  | k + 1 => by
    have e : fewB R nn sl = fewB R2 nn sl2 := by funext l; unfold fewB; rw [h l]
    simp only [fewTo, fewUp, fewTo_congr h k, e]
theorem cnt_rot {s : Nat → Bool} {m by' : Nat} (hm : 0 < m) : cnt (fun i => s ((i + by') % m)) m = cnt s m := by
  apply Nat.le_antisymm
  · refine cnt_inj (fun i => (i + by') % m) m _ (fun i hi h => ⟨Nat.mod_lt _ hm, h⟩) (fun i j hi hj _ _ e => ?_)
    have e' : (i + by') % m = (j + by') % m := e
    have h1 := Nat.mod_add_div (i + by') m
    have h2 := Nat.mod_add_div (j + by') m
    rw [e'] at h1
    have h3 : i + m * ((j + by') / m) = j + m * ((i + by') / m) := by omega
    rcases Nat.lt_trichotomy ((i + by') / m) ((j + by') / m) with h | h | h
    · obtain ⟨d, hd⟩ : ∃ d, (j + by') / m = (i + by') / m + (d + 1) := ⟨(j + by') / m - (i + by') / m - 1, by omega⟩
      rw [hd, Nat.mul_add, Nat.mul_add] at h3; omega
    · rw [h] at h3; omega
    · obtain ⟨d, hd⟩ : ∃ d, (i + by') / m = (j + by') / m + (d + 1) := ⟨(i + by') / m - (j + by') / m - 1, by omega⟩
      rw [hd, Nat.mul_add, Nat.mul_add] at h3; omega
  · refine cnt_inj (fun j => (j + (m - by' % m)) % m) m _ (fun j hj h => ⟨Nat.mod_lt _ hm, ?_⟩) (fun i j hi hj _ _ e => ?_)
    · show s (((j + (m - by' % m)) % m + by') % m) = true
      have hb : by' % m < m := Nat.mod_lt _ hm
      have h1 := Nat.mod_add_div by' m
      have e : ((j + (m - by' % m)) % m + by') % m = j := by
        rw [Nat.mod_add_mod]
        have e2 : j + (m - by' % m) + by' = j + m * (1 + by' / m) := by rw [Nat.mul_add]; omega
        rw [e2, Nat.add_mul_mod_self_left, Nat.mod_eq_of_lt hj]
      rw [e]; exact h
    · have hb : by' % m < m := Nat.mod_lt _ hm
      have e' : (i + (m - by' % m)) % m = (j + (m - by' % m)) % m := e
      have h1 : ∀ q, q < m → (q + (m - by' % m)) % m = if q < by' % m then q + (m - by' % m) else q - by' % m := fun q hq => by
        split
        · exact Nat.mod_eq_of_lt (by omega)
        · have e3 : q + (m - by' % m) = (q - by' % m) + m := by omega
          rw [e3, Nat.add_mod_right, Nat.mod_eq_of_lt (by omega)]
      rw [h1 i hi, h1 j hj] at e'
      split at e' <;> split at e' <;> omega
def Rrot (R : Nat → Nat → Bool) (m by' i k : Nat) : Bool := R ((i + by') % m) k
theorem upto_has {m i : Nat} : (uptoI m).contains (i : Int) = decide (i < m) := by
  rw [uptoI_row, Bool.eq_iff_iff, decide_eq_true_eq, rowL_has]
  constructor
  · rintro ⟨k, h1, _, h3⟩; omega
  · intro h; exact ⟨i, h, rfl, rfl⟩
/-- Named otherwise they want the same. -/
theorem few_rot (hn : nn ≤ 8) (hm : m ≤ 8) (h0 : 0 < m) (by' : Nat) : fewR (Rrot R m by') m nn (uptoI m) = fewR R m nn (uptoI m) := by
  have hs : risB (-1) (uptoI m) (m : Int) = true := by rw [uptoI_row]; exact ris_of hm _
  rw [fewR_eq hn hs, fewR_eq hn hs]
  refine fewTo_congr (fun l => ?_) _
  rw [withN_cnt hs, withN_cnt hs]
  have e1 : cnt (fun i => (uptoI m).contains (i : Int) && wantB (Rrot R m by') nn l i) m = cnt (fun i => wantB R nn l ((i + by') % m)) m := cnt_congr m fun i hi => by
    rw [upto_has, decide_eq_true hi]; rfl
  have e2 : cnt (fun i => (uptoI m).contains (i : Int) && wantB R nn l i) m = cnt (fun i => wantB R nn l i) m := cnt_congr m fun i hi => by
    rw [upto_has, decide_eq_true hi]; rfl
  rw [e1, e2]
  exact cnt_rot (s := fun i => wantB R nn l i) h0
/-! ### Those who want the same -/
theorem cnt_same {s t : Nat → Bool} : ∀ (n : Nat), (∀ k, k < n → s k = true → t k = true) → cnt t n ≤ cnt s n → ∀ k, k < n → s k = t k
  | n + 1, h, hc, k, hk => by
    have hc' : cnt t n + (if t n = true then 1 else 0) ≤ cnt s n + (if s n = true then 1 else 0) := hc
    have hle := cnt_le n (fun k hk => h k (by omega))
    by_cases e : k = n
    · subst e
      cases hs : s k with
      | true => exact (h k hk hs).symm
      | false =>
        cases ht : t k with
        | false => rfl
        | true => simp only [hs, ht] at hc'; simp at hc'; omega
    · refine cnt_same n (fun k hk => h k (by omega)) ?_ k (by omega)
      cases hs : s n with
      | true => simp only [hs, h n (by omega) hs] at hc'; simp at hc'; omega
      | false => simp only [hs] at hc'; simp at hc'; split at hc' <;> omega
theorem same_want {b : Nat → Bool} {l : List Int} {i : Nat} : wantB (fun _ => b) nn l i = wantB (fun _ => b) nn l 0 := rfl
theorem same_withN {b : Nat → Bool} {c : Nat} (hc : c ≤ 8) (l : List Int) : withN (fun _ => b) nn (uptoI c) l = if wantB (fun _ => b) nn l 0 = true then c else 0 := by
  have hs : risB (-1) (uptoI c) (c : Int) = true := by rw [uptoI_row]; exact ris_of hc _
  rw [withN_cnt hs]
  by_cases h : wantB (fun _ => b) nn l 0 = true
  · rw [if_pos h]
    have : cnt (fun i => (uptoI c).contains (i : Int) && wantB (fun _ => b) nn l i) c = cnt (fun j => decide (j < c)) c := cnt_congr c fun i hi => by
      rw [upto_has, same_want, h, Bool.and_true]
    rw [this]; exact cnt_lt (Nat.le_refl c)
  · rw [if_neg h]
    exact cnt_zero c fun i _ => by rw [same_want]; simp at h; rw [h, Bool.and_false]
theorem want_le {b : Nat → Bool} {l : List Int} (hl : risB (-1) l (nn : Int) = true) (h : wantB (fun _ => b) nn l 0 = true) : cnt b nn ≤ l.length := by
  rw [← ris_cnt hl]
  exact cnt_le nn fun k hk hb => wantB_iff.1 h k hk hb
theorem same_none {b : Nat → Bool} (hn : nn ≤ 8) : fewR (fun _ => b) (cnt b nn) nn (uptoI (cnt b nn)) = none := by
  have hc : cnt b nn ≤ 8 := by have := cnt_bound b nn; omega
  have hs : risB (-1) (uptoI (cnt b nn)) ((cnt b nn : Nat) : Int) = true := by rw [uptoI_row]; exact ris_of hc _
  rw [fewR_eq hn hs]
  cases hf : fewTo (fun _ => b) nn (uptoI (cnt b nn)) (nn + 1) with
  | none => rfl
  | some l =>
    exfalso
    obtain ⟨h1, h2, _⟩ := fewTo_first hf
    unfold fewB at h2
    have h3 := of_decide_eq_true h2
    rw [same_withN hc] at h3
    split at h3
    · rename_i hw
      have := want_le h1 hw; omega
    · omega
theorem same_some {b : Nat → Bool} (hn : nn ≤ 8) (h7 : cnt b nn + 1 ≤ 8) : fewR (fun _ => b) (cnt b nn + 1) nn (uptoI (cnt b nn + 1)) = some (rowL nn b) := by
  have hs : risB (-1) (uptoI (cnt b nn + 1)) ((cnt b nn + 1 : Nat) : Int) = true := by rw [uptoI_row]; exact ris_of h7 _
  rw [fewR_eq hn hs]
  have hw : fewB (fun _ => b) nn (uptoI (cnt b nn + 1)) (rowL nn b) = true := by
    unfold fewB
    rw [same_withN h7, if_pos (wantB_iff.2 fun k hk hb => (rowL_has nn b _).2 ⟨k, hk, hb, rfl⟩), rowL_cnt]
    exact decide_eq_true (by omega)
  cases hf : fewTo (fun _ => b) nn (uptoI (cnt b nn + 1)) (nn + 1) with
  | none => rw [few_all hf (ris_of hn b)] at hw; cases hw
  | some l =>
    obtain ⟨h1, h2, _⟩ := fewTo_first hf
    unfold fewB at h2
    have h3 := of_decide_eq_true h2
    rw [same_withN h7] at h3
    split at h3
    · rename_i hw2
      have hle := want_le h1 hw2
      have hsame := cnt_same nn (s := b) (t := fun k => l.contains (k : Int)) (fun k hk hb => wantB_iff.1 hw2 k hk hb) (by rw [ris_cnt h1]; omega)
      have hl := ris_rowL h1
      rw [hl]
      congr 1
      unfold rowL rowN
      congr 1
      apply List.filter_congr
      intro k hk
      exact (hsame k (by simpa using hk)).symm
    · omega
end
theorem ris_up : ∀ (l : List Int) (a m : Int), risB a l m = true → ∀ i, i + 1 < l.length → l.getD i 0 < l.getD (i + 1) 0
  | x :: y :: l, a, m, h, 0, _ => by
    simp only [risB, Bool.and_eq_true, Bool.not_eq_true', Bool.or_eq_false_iff, decide_eq_false_iff_not] at h
    simp; omega
  | x :: l, a, m, h, i + 1, hi => by
    simp only [risB, Bool.and_eq_true] at h
    have := ris_up l x m h.2 i (by simpa using hi)
    simpa using this
theorem few_ne {R : Nat → Nat → Bool} {m nn : Nat} {sl l : List Int} (h : fewR R m nn sl = some l) : rkm (Rsome sl R) m nn ≠ sl.length := fun e => by rw [fewR, if_pos e] at h; cases h
theorem few_yes {R : Nat → Nat → Bool} {m nn : Nat} {sl : List Int} (hn : nn ≤ 8) (hs : risB (-1) sl (m : Int) = true) (h : fewR R m nn sl = none) : rkm (Rsome sl R) m nn = sl.length := (few_iff hn hs).1 (by rw [← fewR_eq hn hs]; exact h)
theorem few_first {R : Nat → Nat → Bool} {m nn : Nat} {sl l : List Int} (hn : nn ≤ 8) (hs : risB (-1) sl (m : Int) = true) (h : fewR R m nn sl = some l) : risB (-1) l (nn : Int) = true ∧ l.length < (sl.filter fun q => wantB R nn l q.toNat).length := by
  rw [fewR_eq hn hs] at h
  have h2 := fewTo_first h
  exact ⟨h2.1, of_decide_eq_true h2.2.1⟩
end Go.Proofs.Ytkhnohnkcdcajaa.Sal
