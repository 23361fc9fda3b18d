/- What a Book is told, one by one; that it finds all apart. -/
import Derived.Test.YtkhnohnkcdcajaaDoorBO1
set_option maxRecDepth 100000
namespace Go.Proofs.YtkhnohnkcdcajaaDoor.Sal
open Go.RowKit
set_option linter.all false
def BkQ (lo : Nat) (wB w : World) (bk M top : Nat) : Prop :=
  ∃ (ns nl : List Nat) (L : Nat → Value) (ln : Nat → Nat) (vi vl : Value), Bk wB w bk M ns nl L vi vl ∧ (∀ q ∈ ns, ∃ xs, Wd wB 3 1 (L q) (ln q) xs) ∧ (∀ q ∈ nl, ∃ xs, Wd wB 25 1 (L q) (ln q) xs) ∧ ns.length ≤ M ∧ nl.length ≤ M ∧
    (∀ q, (q ∈ ns ∨ q ∈ nl) → q ≤ M ∧ ln q ≤ 100000 ∧ ∀ b, (L q).ownBlock = some b → lo ≤ b ∧ b < top) ∧ ns.Nodup ∧ nl.Nodup ∧ (∀ p ∈ ns, ∀ q ∈ nl, p ≠ q) ∧
    ∀ p q, (p ∈ ns ∨ p ∈ nl) → (q ∈ ns ∨ q ∈ nl) → p ≠ q → ∀ b, (L p).ownBlock = some b → (L q).ownBlock ≠ some b
theorem Bk.congr {wB w : World} {bk M : Nat} {ns nl : List Nat} {L L' : Nat → Value} {vi vl : Value} (h : Bk wB w bk M ns nl L vi vl) (he : ∀ q, (q ∈ ns ∨ q ∈ nl) → L q = L' q) : Bk wB w bk M ns nl L' vi vl := by
  refine ⟨h.ex, h.lo, h.hd, ?_, ?_, h.oi, h.ol⟩
  · have := h.wi
    rwa [flat3_congr ns (fun q hq => ⟨he q (.inl hq), rfl⟩)] at this
  · have := h.wl
    rwa [flat3_congr nl (fun q hq => ⟨he q (.inr hq), rfl⟩)] at this
theorem BkQ.init {lo : Nat} {wB w : World} {bk top : Nat} (hx : Ex wB w) (hl : wB.heap.size ≤ bk) (hA : At w bk 49 (bkc 0 nilV nilV)) : BkQ lo wB w bk 0 top :=
  ⟨[], [], fun _ => nilV, fun _ => 0, nilV, nilV, ⟨hx, hl, hA, Wd.nil _ _ _, Wd.nil _ _ _, fun b h => (by cases h), fun b h => (by cases h)⟩, fun q h => (by cases h), fun q h => (by cases h), Nat.le_refl _, Nat.le_refl _, fun q h => (by rcases h with h | h <;> cases h), List.nodup_nil, List.nodup_nil, fun p h => (by cases h), fun p q h => (by rcases h with h | h <;> cases h)⟩
theorem BkQ.exd {lo : Nat} {wB w w' : World} {bk M top : Nat} (h : BkQ lo wB w bk M top) (hx : Ex w w') : BkQ lo wB w' bk M top := by
  obtain ⟨ns, nl, L, ln, vi, vl, h1, h2⟩ := h
  exact ⟨ns, nl, L, ln, vi, vl, h1.exd hx, h2⟩
theorem mem_upN {M k q : Nat} : q ∈ upN M k ↔ ∃ j, j < k ∧ q = M + 1 + j := by
  unfold upN
  rw [List.mem_map]
  constructor
  · rintro ⟨j, h1, h2⟩; exact ⟨j, List.mem_range.1 h1, h2.symm⟩
  · rintro ⟨j, h1, h2⟩; exact ⟨j, List.mem_range.2 h1, h2.symm⟩
theorem upN_nodup (M k : Nat) : (upN M k).Nodup := by
  unfold upN
  refine List.pairwise_map.2 (List.pairwise_lt_range.imp fun h => ?_)
  omega
def setL (L : Nat → Value) (M : Nat) (us : List Value) (v : Value) (q : Nat) : Value := if M < q ∧ q ≤ M + us.length then us.getD (q - M - 1) v else if q = M + us.length + 1 then v else L q
def setN (ln : Nat → Nat) (M k : Nat) (f : Nat → Nat) (n : Nat) (q : Nat) : Nat := if M < q ∧ q ≤ M + k then f (q - M - 1) else if q = M + k + 1 then n else ln q
theorem setL_row {L : Nat → Value} {M : Nat} {us : List Value} {v : Value} {j : Nat} {u : Value} (h : us[j]? = some u) : setL L M us v (M + 1 + j) = u := by
  have hj := (List.getElem?_eq_some_iff.1 h).1
  unfold setL
  rw [if_pos ⟨by omega, by omega⟩]
  have e : M + 1 + j - M - 1 = j := by omega
  rw [e, List.getD_eq_getElem?_getD, h]; rfl
theorem setL_out (L : Nat → Value) (M : Nat) (us : List Value) (v : Value) : setL L M us v (M + us.length + 1) = v := by
  unfold setL
  rw [if_neg (by omega), if_pos rfl]
theorem setL_old {L : Nat → Value} {M : Nat} {us : List Value} {v : Value} {q : Nat} (h : q ≤ M) : setL L M us v q = L q := by
  unfold setL
  rw [if_neg (by omega), if_neg (by omega)]
theorem setN_row (ln : Nat → Nat) (M : Nat) {k j : Nat} (f : Nat → Nat) (n : Nat) (h : j < k) : setN ln M k f n (M + 1 + j) = f j := by
  unfold setN
  rw [if_pos ⟨by omega, by omega⟩]
  congr 1; omega
theorem setN_out (ln : Nat → Nat) (M k : Nat) (f : Nat → Nat) (n : Nat) : setN ln M k f n (M + k + 1) = n := by
  unfold setN
  rw [if_neg (by omega), if_pos rfl]
theorem setN_old {ln : Nat → Nat} {M k : Nat} {f : Nat → Nat} {n q : Nat} (h : q ≤ M) : setN ln M k f n q = ln q := by
  unfold setN
  rw [if_neg (by omega), if_neg (by omega)]
attribute [local irreducible] Go.Code.wpIn Go.wpListIn Ct Ints Rows Sl At Rw WJ
attribute [local irreducible] Wd
theorem bqIntLists_ct (lo : Nat) (wk wB w : World) (bk M top top' : Nat) (v : Value) (us : List Value) (A : List (List Int)) (h : BkQ lo wB w bk M top) (hv : OwL wk wB v us A) (ht : top ≤ wk.heap.size) (hlo : lo ≤ wk.heap.size) (htt : top ≤ top') (hr : ∀ (j : Nat) u b, us[j]? = some u → Value.ownBlock u = some b → b < top') (hvt : ∀ b, v.ownBlock = some b → b < top') (hA : A.length ≤ 20000) (hA2 : ∀ j, (A.getD j []).length ≤ 100000) (hM : M ≤ 20000) :
    Ct Tryd.prog 21 #[.pointer (some ⟨bk, 0, none⟩), v] w fun u w' => u = .tuple #[] ∧ BkQ lo wB w' bk (M + us.length + 1) top' := by
  obtain ⟨ns, nl, L, ln, vi, vl, hB, h1, h2, h3, h4, h5, h6, h7, h8, h9⟩ := h
  have hlen := hv.len
  have hB' : Bk wB w bk M ns nl (setL L M us v) vi vl := hB.congr fun q hq => (setL_old (h5 q hq).1).symm
  have hsl : Sl wB v us := hv.out.sl (by omega)
  refine (bIntLists_ct wB bk M ns nl (setL L M us v) vi vl us v w hB' hsl (fun j u hu => ⟨(hv.row j u hu).2, setL_row hu⟩) (setL_out L M us v) (by omega) (by omega) (by omega)).mono fun u w' ⟨hu, vi', vl', hB2⟩ => ?_
  have new : ∀ q, (q ∈ upN M us.length) → ∃ j x, j < us.length ∧ us[j]? = some x ∧ q = M + 1 + j ∧ setL L M us v q = x := fun q hq => by
    obtain ⟨j, hj, rfl⟩ := mem_upN.1 hq
    have hj2 : us[j]? = some us[j] := List.getElem?_eq_getElem hj
    exact ⟨j, us[j], hj, hj2, rfl, setL_row hj2⟩
  have cls : ∀ q, (q ∈ ns ++ upN M us.length ∨ q ∈ nl ++ [M + us.length + 1]) → ((q ∈ ns ∨ q ∈ nl) ∧ setL L M us v q = L q) ∨ (∃ j x, j < us.length ∧ us[j]? = some x ∧ q = M + 1 + j ∧ setL L M us v q = x) ∨ (q = M + us.length + 1 ∧ setL L M us v q = v) := fun q hq => by
    simp only [List.mem_append, List.mem_singleton] at hq
    rcases hq with (hq | hq) | (hq | hq)
    · exact .inl ⟨.inl hq, setL_old (h5 q (.inl hq)).1⟩
    · exact .inr (.inl (new q hq))
    · exact .inl ⟨.inr hq, setL_old (h5 q (.inr hq)).1⟩
    · subst hq; exact .inr (.inr ⟨rfl, setL_out L M us v⟩)
  refine ⟨hu, _, _, setL L M us v, setN ln M us.length (fun j => (A.getD j []).length) A.length, vi', vl', hB2, fun q hq => ?_, fun q hq => ?_, ?_, ?_, fun q hq => ?_, ?_, ?_, fun p hp q hq => ?_, fun p q hp hq hpq b hb => ?_⟩
  · rcases List.mem_append.1 hq with hq | hq
    · have h10 := (h5 q (.inl hq)).1
      rw [setL_old h10, setN_old h10]; exact h1 q hq
    · obtain ⟨j, x, hj, hx, rfl, e⟩ := new q hq
      rw [e, setN_row ln M _ _ hj]
      exact ⟨_, (hv.row j x hx).1⟩
  · rcases List.mem_append.1 hq with hq | hq
    · have h10 := (h5 q (.inr hq)).1
      rw [setL_old h10, setN_old h10]; exact h2 q hq
    · simp at hq; subst hq
      rw [setL_out, setN_out]
      exact ⟨_, hv.out⟩
  · rw [List.length_append, upN_len]; omega
  · rw [List.length_append, List.length_singleton]; omega
  · rcases cls q hq with ⟨hq, e⟩ | ⟨j, x, hj, hx, rfl, e⟩ | ⟨rfl, e⟩
    · have h10 := h5 q hq
      rw [e, setN_old h10.1]
      exact ⟨by omega, h10.2.1, fun b hb => ⟨(h10.2.2 b hb).1, by have := (h10.2.2 b hb).2; omega⟩⟩
    · rw [e, setN_row ln M _ _ hj]
      exact ⟨by omega, hA2 j, fun b hb => ⟨by have := (hv.low j x b hx hb).1; omega, hr j x b hx hb⟩⟩
    · rw [e, setN_out]
      exact ⟨Nat.le_refl _, by omega, fun b hb => ⟨by have := hv.lov b hb; omega, hvt b hb⟩⟩
  · refine List.nodup_append.2 ⟨h6, upN_nodup _ _, fun p hp q hq e => ?_⟩
    subst e
    obtain ⟨j, hj, e⟩ := mem_upN.1 hq
    have := (h5 p (.inl hp)).1; omega
  · refine List.nodup_append.2 ⟨h7, by simp, fun p hp q hq e => ?_⟩
    subst e
    simp at hq
    have := (h5 p (.inr hp)).1; omega
  · intro e
    subst e
    rcases List.mem_append.1 hp with hp | hp <;> rcases List.mem_append.1 hq with hq | hq
    · exact h8 p hp p hq rfl
    · simp at hq; have := (h5 p (.inl hp)).1; omega
    · obtain ⟨j, hj, e⟩ := mem_upN.1 hp
      have := (h5 p (.inr hq)).1; omega
    · simp at hq
      obtain ⟨j, hj, e⟩ := mem_upN.1 hp
      omega
  · intro hb2
    rcases cls p hp with ⟨hp', e⟩ | ⟨j, x, hj, hx, hpe, e⟩ | ⟨hpe, e⟩ <;> rcases cls q hq with ⟨hq', e'⟩ | ⟨j', x', hj', hx', hqe, e'⟩ | ⟨hqe, e'⟩ <;> rw [e] at hb <;> rw [e'] at hb2
    · exact h9 p q hp' hq' hpq b hb hb2
    · have := ((h5 p hp').2.2 b hb).2; have := (hv.low j' x' b hx' hb2).1; omega
    · have := ((h5 p hp').2.2 b hb).2; have := hv.lov b hb2; omega
    · have := ((h5 q hq').2.2 b hb2).2; have := (hv.low j x b hx hb).1; omega
    · exact hv.dis j j' x x' b hx hx' (fun e3 => hpq (by omega)) hb hb2
    · exact (hv.low j x b hx hb).2 hb2
    · have := ((h5 q hq').2.2 b hb2).2; have := hv.lov b hb; omega
    · exact (hv.low j' x' b hx' hb2).2 hb
    · exact hpq (by omega)
theorem bqInts_ct (lo : Nat) (wk wB w : World) (bk M top top' : Nat) (v : Value) (l : List Int) (h : BkQ lo wB w bk M top) (hv : OwI wk wB v l) (ht : top ≤ wk.heap.size) (hlo : lo ≤ wk.heap.size) (htt : top ≤ top') (hvt : ∀ b, v.ownBlock = some b → b < top') (hl : l.length ≤ 100000) (hM : M ≤ 50000) :
    Ct Tryd.prog 22 #[.pointer (some ⟨bk, 0, none⟩), v] w fun u w' => u = .tuple #[] ∧ BkQ lo wB w' bk (M + 1) top' := by
  obtain ⟨ns, nl, L, ln, vi, vl, hB, h1, h2, h3, h4, h5, h6, h7, h8, h9⟩ := h
  obtain ⟨a, c, hf⟩ := hv.1.slen
  have eo : setL L M [] v (M + 1) = v := setL_out L M [] v
  have eN : setN ln M 0 (fun _ => 0) l.length (M + 1) = l.length := setN_out ln M 0 _ _
  have hB' : Bk wB w bk M ns nl (setL L M [] v) vi vl := hB.congr fun q hq => (setL_old (h5 q hq).1).symm
  have hct := bInts_ct wB bk M ns nl (setL L M [] v) vi vl a l.length c w hB' (by rw [eo]; exact hf) (by omega) (by omega)
  rw [← hf] at hct
  refine hct.mono fun u w' ⟨hu, vi', hB2⟩ => ?_
  have cls : ∀ q, (q ∈ ns ++ [M + 1] ∨ q ∈ nl) → ((q ∈ ns ∨ q ∈ nl) ∧ setL L M [] v q = L q) ∨ (q = M + 1 ∧ setL L M [] v q = v) := fun q hq => by
    simp only [List.mem_append, List.mem_singleton] at hq
    rcases hq with (hq | hq) | hq
    · exact .inl ⟨.inl hq, setL_old (h5 q (.inl hq)).1⟩
    · subst hq; exact .inr ⟨rfl, eo⟩
    · exact .inl ⟨.inr hq, setL_old (h5 q (.inr hq)).1⟩
  refine ⟨hu, _, _, setL L M [] v, setN ln M 0 (fun _ => 0) l.length, vi', vl, hB2, fun q hq => ?_, fun q hq => ?_, ?_, by omega, fun q hq => ?_, ?_, h7, fun p hp q hq e => ?_, fun p q hp hq hpq b hb => ?_⟩
  · rcases List.mem_append.1 hq with hq | hq
    · have h10 := (h5 q (.inl hq)).1
      rw [setL_old h10, setN_old h10]; exact h1 q hq
    · simp at hq; subst hq
      rw [eo, eN]
      exact ⟨_, hv.1⟩
  · have h10 := (h5 q (.inr hq)).1
    rw [setL_old h10, setN_old h10]; exact h2 q hq
  · rw [List.length_append, List.length_singleton]; omega
  · rcases cls q hq with ⟨hq, e⟩ | ⟨rfl, e⟩
    · have h10 := h5 q hq
      rw [e, setN_old h10.1]
      exact ⟨by omega, h10.2.1, fun b hb => ⟨(h10.2.2 b hb).1, by have := (h10.2.2 b hb).2; omega⟩⟩
    · rw [e, eN]
      exact ⟨Nat.le_refl _, hl, fun b hb => ⟨by have := hv.2 b hb; omega, hvt b hb⟩⟩
  · refine List.nodup_append.2 ⟨h6, by simp, fun p hp q hq e => ?_⟩
    subst e
    simp at hq
    have := (h5 p (.inl hp)).1; omega
  · subst e
    rcases List.mem_append.1 hp with hp | hp
    · exact h8 p hp p hq rfl
    · simp at hp; have := (h5 p (.inr hq)).1; omega
  · intro hb2
    rcases cls p hp with ⟨hp', e⟩ | ⟨hpe, e⟩ <;> rcases cls q hq with ⟨hq', e'⟩ | ⟨hqe, e'⟩ <;> rw [e] at hb <;> rw [e'] at hb2
    · exact h9 p q hp' hq' hpq b hb hb2
    · have := ((h5 p hp').2.2 b hb).2; have := hv.2 b hb2; omega
    · have := ((h5 q hq').2.2 b hb2).2; have := hv.2 b hb; omega
    · exact hpq (by omega)
theorem bqApart_ct (lo : Nat) (w0 wB w : World) (bk M top : Nat) (h : BkQ lo wB w bk M top) (h0 : Ex w0 wB) (hlo : w0.heap.size ≤ lo) (ht : top ≤ wB.heap.size) (hM : M ≤ 100000) :
    Ct Tryd.prog 23 #[.pointer (some ⟨bk, 0, none⟩)] w fun u w' => u = .bool true ∧ Ex w0 w' := by
  obtain ⟨ns, nl, L, ln, vi, vl, hB, h1, h2, h3, h4, h5, h6, h7, h8, h9⟩ := h
  refine (Apart_ct wB bk M ns nl L ln vi vl w hB (fun q hq => let ⟨xs, hx⟩ := h1 q hq; ⟨xs, hx.ex hB.ex⟩) (fun q hq => let ⟨xs, hx⟩ := h2 q hq; ⟨xs, hx.ex hB.ex⟩) (by omega) (by omega) (fun q hq => by have := (h5 q (List.mem_append.1 hq)).1; omega) (fun q hq => (h5 q (List.mem_append.1 hq)).2.1) (List.nodup_append.2 ⟨h6, h7, h8⟩) (fun p hp q hq => h9 p q (List.mem_append.1 hp) (List.mem_append.1 hq)) (fun q hq b hb => by have := ((h5 q (List.mem_append.1 hq)).2.2 b hb).2; omega)).mono fun u w' ⟨hu, hk⟩ => ⟨hu, KtS.ex (h0.trans hB.ex) hk (fun b hb => ?_)⟩
  have := h0.size
  rcases hb with ⟨q, hq, hb⟩ | hb
  · have := ((h5 q (List.mem_append.1 hq)).2.2 b hb).1; omega
  · omega
end Go.Proofs.YtkhnohnkcdcajaaDoor.Sal
