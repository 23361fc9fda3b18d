/- Texts that YtifbgpkjbciblaaGreatDoorFRO leans on, laid together: BO2 RR5 Core21 V23 V24 RR6 LRO. -/
import Derived.Test.YtifbgpkjbciblaaGreatDoorMFRO11
import Derived.Test.YtifbgpkjbciblaaGreatDoorMFRO10
import Derived.Test.YtifbgpkjbciblaaGreatDoorMFRO8
import Derived.Test.YtifbgpkjbciblaaGreatDoorMFRO2
section
/- What a Book is told, one by one; that it finds all apart. -/
set_option maxRecDepth 100000
namespace Go.Proofs.YtifbgpkjbciblaaGreatDoor.Sal
open Go.RowKit
set_option linter.all false
def BkQ (lo : Nat) (wB w : World) (bk M top : Nat) : Prop :=
  ∃ (ns nl : List Nat) (L : Nat → Value) (ln : Nat → Nat) (vi vl : Value), Bk wB w bk M ns nl L vi vl ∧ (∀ q ∈ ns, ∃ xs, Wd wB 3 1 (L q) (ln q) xs) ∧ (∀ q ∈ nl, ∃ xs, Wd wB 25 1 (L q) (ln q) xs) ∧ ns.length ≤ M ∧ nl.length ≤ M ∧
    (∀ q, (q ∈ ns ∨ q ∈ nl) → q ≤ M ∧ ln q ≤ 100000 ∧ ∀ b, (L q).ownBlock = some b → lo ≤ b ∧ b < top) ∧ ns.Nodup ∧ nl.Nodup ∧ (∀ p ∈ ns, ∀ q ∈ nl, p ≠ q) ∧
    ∀ p q, (p ∈ ns ∨ p ∈ nl) → (q ∈ ns ∨ q ∈ nl) → p ≠ q → ∀ b, (L p).ownBlock = some b → (L q).ownBlock ≠ some b
theorem Bk.congr {wB w : World} {bk M : Nat} {ns nl : List Nat} {L L' : Nat → Value} {vi vl : Value} (h : Bk wB w bk M ns nl L vi vl) (he : ∀ q, (q ∈ ns ∨ q ∈ nl) → L q = L' q) : Bk wB w bk M ns nl L' vi vl := by
  refine ⟨h.ex, h.lo, h.hd, ?_, ?_, h.oi, h.ol⟩
  · have := h.wi
    rwa [flat3_congr ns (fun q hq => ⟨he q (.inl hq), rfl⟩)] at this
  · have := h.wl
    rwa [flat3_congr nl (fun q hq => ⟨he q (.inr hq), rfl⟩)] at this
theorem BkQ.init {lo : Nat} {wB w : World} {bk top : Nat} (hx : Ex wB w) (hl : wB.heap.size ≤ bk) (hA : At w bk 46 (bkc 0 nilV nilV)) : BkQ lo wB w bk 0 top :=
  ⟨[], [], fun _ => nilV, fun _ => 0, nilV, nilV, ⟨hx, hl, hA, Wd.nil _ _ _, Wd.nil _ _ _, fun b h => (by cases h), fun b h => (by cases h)⟩, fun q h => (by cases h), fun q h => (by cases h), Nat.le_refl _, Nat.le_refl _, fun q h => (by rcases h with h | h <;> cases h), List.nodup_nil, List.nodup_nil, fun p h => (by cases h), fun p q h => (by rcases h with h | h <;> cases h)⟩
theorem BkQ.exd {lo : Nat} {wB w w' : World} {bk M top : Nat} (h : BkQ lo wB w bk M top) (hx : Ex w w') : BkQ lo wB w' bk M top := by
  obtain ⟨ns, nl, L, ln, vi, vl, h1, h2⟩ := h
  exact ⟨ns, nl, L, ln, vi, vl, h1.exd hx, h2⟩
theorem mem_upN {M k q : Nat} : q ∈ upN M k ↔ ∃ j, j < k ∧ q = M + 1 + j := by
  unfold upN
  rw [List.mem_map]
  constructor
  · rintro ⟨j, h1, h2⟩; exact ⟨j, List.mem_range.1 h1, h2.symm⟩
  · rintro ⟨j, h1, h2⟩; exact ⟨j, List.mem_range.2 h1, h2.symm⟩
theorem upN_nodup (M k : Nat) : (upN M k).Nodup := by
  unfold upN
  refine List.pairwise_map.2 (List.pairwise_lt_range.imp fun h => ?_)
  omega
def setL (L : Nat → Value) (M : Nat) (us : List Value) (v : Value) (q : Nat) : Value := if M < q ∧ q ≤ M + us.length then us.getD (q - M - 1) v else if q = M + us.length + 1 then v else L q
def setN (ln : Nat → Nat) (M k : Nat) (f : Nat → Nat) (n : Nat) (q : Nat) : Nat := if M < q ∧ q ≤ M + k then f (q - M - 1) else if q = M + k + 1 then n else ln q
theorem setL_row {L : Nat → Value} {M : Nat} {us : List Value} {v : Value} {j : Nat} {u : Value} (h : us[j]? = some u) : setL L M us v (M + 1 + j) = u := by
  have hj := (List.getElem?_eq_some_iff.1 h).1
  unfold setL
  rw [if_pos ⟨by omega, by omega⟩]
  have e : M + 1 + j - M - 1 = j := by omega
  rw [e, List.getD_eq_getElem?_getD, h]; rfl
theorem setL_out (L : Nat → Value) (M : Nat) (us : List Value) (v : Value) : setL L M us v (M + us.length + 1) = v := by
  unfold setL
  rw [if_neg (by omega), if_pos rfl]
theorem setL_old {L : Nat → Value} {M : Nat} {us : List Value} {v : Value} {q : Nat} (h : q ≤ M) : setL L M us v q = L q := by
  unfold setL
  rw [if_neg (by omega), if_neg (by omega)]
theorem setN_row (ln : Nat → Nat) (M : Nat) {k j : Nat} (f : Nat → Nat) (n : Nat) (h : j < k) : setN ln M k f n (M + 1 + j) = f j := by
  unfold setN
  rw [if_pos ⟨by omega, by omega⟩]
  congr 1; omega
theorem setN_out (ln : Nat → Nat) (M k : Nat) (f : Nat → Nat) (n : Nat) : setN ln M k f n (M + k + 1) = n := by
  unfold setN
  rw [if_neg (by omega), if_pos rfl]
theorem setN_old {ln : Nat → Nat} {M k : Nat} {f : Nat → Nat} {n q : Nat} (h : q ≤ M) : setN ln M k f n q = ln q := by
  unfold setN
  rw [if_neg (by omega), if_neg (by omega)]
attribute [local irreducible] Go.Code.wpIn Go.wpListIn Ct Ints Rows Sl At Rw WJ
attribute [local irreducible] Wd
theorem bqIntListsF_ct (lo : Nat) (wk wB w : World) (bk M top top' : Nat) (v : Value) (us : List Value) (A : List (List Int)) (h : BkQ lo wB w bk M top) (hv : OwL wk wB v us A) (ht : top ≤ wk.heap.size) (hlo : lo ≤ wk.heap.size) (htt : top ≤ top') (hr : ∀ (j : Nat) u b, us[j]? = some u → Value.ownBlock u = some b → b < top') (hvt : ∀ b, v.ownBlock = some b → b < top') (hA : A.length ≤ 20000) (hA2 : ∀ j, (A.getD j []).length ≤ 100000) (hM : M ≤ 20000) :
    Ct Tryz.prog 16 #[.pointer (some ⟨bk, 0, none⟩), v] w fun u w' => u = .tuple #[] ∧ BkQ lo wB w' bk (M + us.length + 1) top' ∧ FrB w w' := by
  obtain ⟨ns, nl, L, ln, vi, vl, hB, h1, h2, h3, h4, h5, h6, h7, h8, h9⟩ := h
  have hlen := hv.len
  have hB' : Bk wB w bk M ns nl (setL L M us v) vi vl := hB.congr fun q hq => (setL_old (h5 q hq).1).symm
  have hsl : Sl wB v us := hv.out.sl (by omega)
  refine (bIntListsF_ct wB bk M ns nl (setL L M us v) vi vl us v w hB' hsl (fun j u hu => ⟨(hv.row j u hu).2, setL_row hu⟩) (setL_out L M us v) (by omega) (by omega) (by omega)).mono fun u w' ⟨hu, ⟨vi', vl', hB2⟩, hFr⟩ => ?_
  have new : ∀ q, (q ∈ upN M us.length) → ∃ j x, j < us.length ∧ us[j]? = some x ∧ q = M + 1 + j ∧ setL L M us v q = x := fun q hq => by
    obtain ⟨j, hj, rfl⟩ := mem_upN.1 hq
    have hj2 : us[j]? = some us[j] := List.getElem?_eq_getElem hj
    exact ⟨j, us[j], hj, hj2, rfl, setL_row hj2⟩
  have cls : ∀ q, (q ∈ ns ++ upN M us.length ∨ q ∈ nl ++ [M + us.length + 1]) → ((q ∈ ns ∨ q ∈ nl) ∧ setL L M us v q = L q) ∨ (∃ j x, j < us.length ∧ us[j]? = some x ∧ q = M + 1 + j ∧ setL L M us v q = x) ∨ (q = M + us.length + 1 ∧ setL L M us v q = v) := fun q hq => by
    simp only [List.mem_append, List.mem_singleton] at hq
    rcases hq with (hq | hq) | (hq | hq)
    · exact .inl ⟨.inl hq, setL_old (h5 q (.inl hq)).1⟩
    · exact .inr (.inl (new q hq))
    · exact .inl ⟨.inr hq, setL_old (h5 q (.inr hq)).1⟩
    · subst hq; exact .inr (.inr ⟨rfl, setL_out L M us v⟩)
  refine ⟨hu, ⟨_, _, setL L M us v, setN ln M us.length (fun j => (A.getD j []).length) A.length, vi', vl', hB2, fun q hq => ?_, fun q hq => ?_, ?_, ?_, fun q hq => ?_, ?_, ?_, fun p hp q hq => ?_, fun p q hp hq hpq b hb => ?_⟩, hFr⟩
  · rcases List.mem_append.1 hq with hq | hq
    · have h10 := (h5 q (.inl hq)).1
      rw [setL_old h10, setN_old h10]; exact h1 q hq
    · obtain ⟨j, x, hj, hx, rfl, e⟩ := new q hq
      rw [e, setN_row ln M _ _ hj]
      exact ⟨_, (hv.row j x hx).1⟩
  · rcases List.mem_append.1 hq with hq | hq
    · have h10 := (h5 q (.inr hq)).1
      rw [setL_old h10, setN_old h10]; exact h2 q hq
    · simp at hq; subst hq
      rw [setL_out, setN_out]
      exact ⟨_, hv.out⟩
  · rw [List.length_append, upN_len]; omega
  · rw [List.length_append, List.length_singleton]; omega
  · rcases cls q hq with ⟨hq, e⟩ | ⟨j, x, hj, hx, rfl, e⟩ | ⟨rfl, e⟩
    · have h10 := h5 q hq
      rw [e, setN_old h10.1]
      exact ⟨by omega, h10.2.1, fun b hb => ⟨(h10.2.2 b hb).1, by have := (h10.2.2 b hb).2; omega⟩⟩
    · rw [e, setN_row ln M _ _ hj]
      exact ⟨by omega, hA2 j, fun b hb => ⟨by have := (hv.low j x b hx hb).1; omega, hr j x b hx hb⟩⟩
    · rw [e, setN_out]
      exact ⟨Nat.le_refl _, by omega, fun b hb => ⟨by have := hv.lov b hb; omega, hvt b hb⟩⟩
  · refine List.nodup_append.2 ⟨h6, upN_nodup _ _, fun p hp q hq e => ?_⟩
    subst e
    obtain ⟨j, hj, e⟩ := mem_upN.1 hq
    have := (h5 p (.inl hp)).1; omega
  · refine List.nodup_append.2 ⟨h7, by simp, fun p hp q hq e => ?_⟩
    subst e
    simp at hq
    have := (h5 p (.inr hp)).1; omega
  · intro e
    subst e
    rcases List.mem_append.1 hp with hp | hp <;> rcases List.mem_append.1 hq with hq | hq
    · exact h8 p hp p hq rfl
    · simp at hq; have := (h5 p (.inl hp)).1; omega
    · obtain ⟨j, hj, e⟩ := mem_upN.1 hp
      have := (h5 p (.inr hq)).1; omega
    · simp at hq
      obtain ⟨j, hj, e⟩ := mem_upN.1 hp
      omega
  · intro hb2
    rcases cls p hp with ⟨hp', e⟩ | ⟨j, x, hj, hx, hpe, e⟩ | ⟨hpe, e⟩ <;> rcases cls q hq with ⟨hq', e'⟩ | ⟨j', x', hj', hx', hqe, e'⟩ | ⟨hqe, e'⟩ <;> rw [e] at hb <;> rw [e'] at hb2
    · exact h9 p q hp' hq' hpq b hb hb2
    · have := ((h5 p hp').2.2 b hb).2; have := (hv.low j' x' b hx' hb2).1; omega
    · have := ((h5 p hp').2.2 b hb).2; have := hv.lov b hb2; omega
    · have := ((h5 q hq').2.2 b hb2).2; have := (hv.low j x b hx hb).1; omega
    · exact hv.dis j j' x x' b hx hx' (fun e3 => hpq (by omega)) hb hb2
    · exact (hv.low j x b hx hb).2 hb2
    · have := ((h5 q hq').2.2 b hb2).2; have := hv.lov b hb; omega
    · exact (hv.low j' x' b hx' hb2).2 hb
    · exact hpq (by omega)
theorem bqIntsF_ct (lo : Nat) (wk wB w : World) (bk M top top' : Nat) (v : Value) (l : List Int) (h : BkQ lo wB w bk M top) (hv : OwI wk wB v l) (ht : top ≤ wk.heap.size) (hlo : lo ≤ wk.heap.size) (htt : top ≤ top') (hvt : ∀ b, v.ownBlock = some b → b < top') (hl : l.length ≤ 100000) (hM : M ≤ 50000) :
    Ct Tryz.prog 17 #[.pointer (some ⟨bk, 0, none⟩), v] w fun u w' => u = .tuple #[] ∧ BkQ lo wB w' bk (M + 1) top' ∧ FrB w w' := by
  obtain ⟨ns, nl, L, ln, vi, vl, hB, h1, h2, h3, h4, h5, h6, h7, h8, h9⟩ := h
  obtain ⟨a, c, hf⟩ := hv.1.slen
  have eo : setL L M [] v (M + 1) = v := setL_out L M [] v
  have eN : setN ln M 0 (fun _ => 0) l.length (M + 1) = l.length := setN_out ln M 0 _ _
  have hB' : Bk wB w bk M ns nl (setL L M [] v) vi vl := hB.congr fun q hq => (setL_old (h5 q hq).1).symm
  have hct := bIntsF_ct wB bk M ns nl (setL L M [] v) vi vl a l.length c w hB' (by rw [eo]; exact hf) (by omega) (by omega)
  rw [← hf] at hct
  refine hct.mono fun u w' ⟨hu, ⟨vi', hB2⟩, hFr⟩ => ?_
  have cls : ∀ q, (q ∈ ns ++ [M + 1] ∨ q ∈ nl) → ((q ∈ ns ∨ q ∈ nl) ∧ setL L M [] v q = L q) ∨ (q = M + 1 ∧ setL L M [] v q = v) := fun q hq => by
    simp only [List.mem_append, List.mem_singleton] at hq
    rcases hq with (hq | hq) | hq
    · exact .inl ⟨.inl hq, setL_old (h5 q (.inl hq)).1⟩
    · subst hq; exact .inr ⟨rfl, eo⟩
    · exact .inl ⟨.inr hq, setL_old (h5 q (.inr hq)).1⟩
  refine ⟨hu, ⟨_, _, setL L M [] v, setN ln M 0 (fun _ => 0) l.length, vi', vl, hB2, fun q hq => ?_, fun q hq => ?_, ?_, by omega, fun q hq => ?_, ?_, h7, fun p hp q hq e => ?_, fun p q hp hq hpq b hb => ?_⟩, hFr⟩
  · rcases List.mem_append.1 hq with hq | hq
    · have h10 := (h5 q (.inl hq)).1
      rw [setL_old h10, setN_old h10]; exact h1 q hq
    · simp at hq; subst hq
      rw [eo, eN]
      exact ⟨_, hv.1⟩
  · have h10 := (h5 q (.inr hq)).1
    rw [setL_old h10, setN_old h10]; exact h2 q hq
  · rw [List.length_append, List.length_singleton]; omega
  · rcases cls q hq with ⟨hq, e⟩ | ⟨rfl, e⟩
    · have h10 := h5 q hq
      rw [e, setN_old h10.1]
      exact ⟨by omega, h10.2.1, fun b hb => ⟨(h10.2.2 b hb).1, by have := (h10.2.2 b hb).2; omega⟩⟩
    · rw [e, eN]
      exact ⟨Nat.le_refl _, hl, fun b hb => ⟨by have := hv.2 b hb; omega, hvt b hb⟩⟩
  · refine List.nodup_append.2 ⟨h6, by simp, fun p hp q hq e => ?_⟩
    subst e
    simp at hq
    have := (h5 p (.inl hp)).1; omega
  · subst e
    rcases List.mem_append.1 hp with hp | hp
    · exact h8 p hp p hq rfl
    · simp at hp; have := (h5 p (.inr hq)).1; omega
  · intro hb2
    rcases cls p hp with ⟨hp', e⟩ | ⟨hpe, e⟩ <;> rcases cls q hq with ⟨hq', e'⟩ | ⟨hqe, e'⟩ <;> rw [e] at hb <;> rw [e'] at hb2
    · exact h9 p q hp' hq' hpq b hb hb2
    · have := ((h5 p hp').2.2 b hb).2; have := hv.2 b hb2; omega
    · have := ((h5 q hq').2.2 b hb2).2; have := hv.2 b hb; omega
    · exact hpq (by omega)
theorem bqInts_ct (lo : Nat) (wk wB w : World) (bk M top top' : Nat) (v : Value) (l : List Int) (h : BkQ lo wB w bk M top) (hv : OwI wk wB v l) (ht : top ≤ wk.heap.size) (hlo : lo ≤ wk.heap.size) (htt : top ≤ top') (hvt : ∀ b, v.ownBlock = some b → b < top') (hl : l.length ≤ 100000) (hM : M ≤ 50000) :
    Ct Tryz.prog 17 #[.pointer (some ⟨bk, 0, none⟩), v] w fun u w' => u = .tuple #[] ∧ BkQ lo wB w' bk (M + 1) top' :=
  (bqIntsF_ct lo wk wB w bk M top top' v l h hv ht hlo htt hvt hl hM).mono fun u w' ⟨h1, h2, _⟩ => ⟨h1, h2⟩
theorem bqApart_ct (lo : Nat) (w0 wB w : World) (bk M top : Nat) (h : BkQ lo wB w bk M top) (h0 : Ex w0 wB) (hlo : w0.heap.size ≤ lo) (ht : top ≤ wB.heap.size) (hM : M ≤ 100000) :
    Ct Tryz.prog 18 #[.pointer (some ⟨bk, 0, none⟩)] w fun u w' => u = .bool true ∧ Ex w0 w' := by
  obtain ⟨ns, nl, L, ln, vi, vl, hB, h1, h2, h3, h4, h5, h6, h7, h8, h9⟩ := h
  refine (Apart_ct wB bk M ns nl L ln vi vl w hB (fun q hq => let ⟨xs, hx⟩ := h1 q hq; ⟨xs, hx.ex hB.ex⟩) (fun q hq => let ⟨xs, hx⟩ := h2 q hq; ⟨xs, hx.ex hB.ex⟩) (by omega) (by omega) (fun q hq => by have := (h5 q (List.mem_append.1 hq)).1; omega) (fun q hq => (h5 q (List.mem_append.1 hq)).2.1) (List.nodup_append.2 ⟨h6, h7, h8⟩) (fun p hp q hq => h9 p q (List.mem_append.1 hp) (List.mem_append.1 hq)) (fun q hq b hb => by have := ((h5 q (List.mem_append.1 hq)).2.2 b hb).2; omega)).mono fun u w' ⟨hu, hk⟩ => ⟨hu, KtS.ex (h0.trans hB.ex) hk (fun b hb => ?_)⟩
  have := h0.size
  rcases hb with ⟨q, hq, hb⟩ | hb
  · have := ((h5 q (List.mem_append.1 hq)).2.2 b hb).1; omega
  · omega
end Go.Proofs.YtifbgpkjbciblaaGreatDoor.Sal
end
section
/- RR5: where the document's steps end; a market's size, twin, and what a Book is told of it. -/
set_option maxRecDepth 100000
namespace Go.Proofs.YtifbgpkjbciblaaGreatDoor.Sal
open Go.RowKit
set_option linter.all false
theorem ok_Least13 : CallOK Tryz.prog 27 := callOK Tryz.func27 (by kernel_rfl) rfl
theorem ok_MSize : CallOK Tryz.prog 21 := callOK Tryz.func21 (by kernel_rfl) rfl
theorem ok_LeftMarket : CallOK Tryz.prog 29 := callOK Tryz.func29 (by kernel_rfl) rfl
theorem ok_bMarket : CallOK Tryz.prog 28 := callOK Tryz.func28 (by kernel_rfl) rfl
theorem ok_LSize13 : CallOK Tryz.prog 6 := callOK Tryz.func6 (by kernel_rfl) rfl
open Classical in
/-- Where it ends. -/
noncomputable def leastS (res : List Int) (bids : List (List Int)) (ord : List Int) : List Int × Int := if h : chkM res bids ord = true then (endL (Classical.choose (run_ex (mkok h))), 0) else ([], 1)
theorem leastS_ok {res : List Int} {bids : List (List Int)} {ord : List Int} (h : chkM res bids ord = true) : ∃ L, RunS res bids L ∧ (∀ i, i < L.length → Lg res (L.getD i [])) ∧ leastS res bids ord = (endL L, 0) := by
  have hc := Classical.choose_spec (run_ex (mkok h))
  exact ⟨_, hc.1, hc.2, by unfold leastS; rw [dif_pos h]⟩
theorem leastS_bad {res : List Int} {bids : List (List Int)} {ord : List Int} (h : chkM res bids ord = false) : leastS res bids ord = ([], 1) := by
  unfold leastS; rw [dif_neg (by rw [h]; simp)]
theorem OwnI.owi {w0 w : World} {b n : Nat} {l : List Int} (h : OwnI w 3 b n l) (hl : l.length = n) (hn : n ≤ 1000) (hb : w0.heap.size ≤ b) : OwI w0 w (sv b n n) l := by
  obtain ⟨sp, hA, hc, _⟩ := h
  subst hl
  exact ⟨⟨by simp, .inr ⟨b, l.length, sp, rfl, hA, Nat.le_refl _, by omega, by simp⟩⟩, fun b' e => by have : b = b' := Option.some.inj e; omega⟩
attribute [local irreducible] Go.Code.wpIn Go.wpListIn Ct Ints Rows Sl At Rw WJ
attribute [local irreducible] Wd OwnI
set_option maxHeartbeats 8000000 in
theorem Least13_ct (rv bv ov : Value) (res : List Int) (bids : List (List Int)) (ord : List Int) (w : World) (hM : Mk w rv bv ov res bids ord) :
    Ct Tryz.prog 27 #[.agg #[rv, bv, ov]] w fun u w' => ∃ v, u = .tuple #[v, .int .i64 (leastS res bids ord).2] ∧ Ints w' v (leastS res bids ord).1 ∧ Ex w w' := by
  refine enter (N := 25) (vs := [.agg #[rv, bv, ov]]) Tryz.func27 rfl rfl rfl ?_
  repeat ((refine isC ?_; refine c_sr ?_))
  refine s_box (cs := [rv, bv, ov]) rfl rfl ?_
  intro b0 w0 hb0 hZ hx0 hs0
  have hM0 := hM.ex hx0
  repeat (first | (refine isO ?_; refine s_assign ?_) | (refine isC ?_; first | refine c_sr ?_ | refine c_seq ?_) | (refine l_th ?_))
  refine s_ldV Tryz.underlying54 rfl (sz_mk _ _ _) rfl hZ ?_
  refine s_call ok_Check5 rfl (Check5_ct rv bv ov res bids ord w0 hM0) ?_
  rintro u w1 ⟨rfl, hx1⟩
  have hx01 := hx0.trans hx1
  refine Or.elim (tfV (chkM res bids ord)) (fun hck => ?_) (fun hck => ?_)
  · refine s_re (v' := .bool true) (vbool hck) ?_
    refine Exists.elim (leastS_ok hck) fun L hL => ?_
    have hR := hL.1
    rw [hL.2.2]
    have hZ1 := hZ.ex hx1
    have hM1 := hM0.ex hx1
    have hr1 := hM1.r
    have hn8 := (mkok hck).n8
    have hpos := hR.pos
    repeat (first | (refine isO ?_; first | (refine isLD ?_; refine s_ldA ty_ints rfl (by assumption) rfl ?_) | refine s_not rfl ?_) | (refine isO ?_; refine s_fa Tryz.underlying54 rfl ty_ints rfl ?_) | (refine isC ?_; first | refine c_sr ?_ | refine c_th ?_ | refine c_iff rfl ?_) | (refine l_th ?_))
    refine s_lapp sl_ints in_int (LI.nil w1 w1 _) hr1 rfl rfl (by simp; omega) (Ex.refl w1) ?_
    intro pv0 w2 hL0 hx2
    rw [List.nil_append] at hL0
    repeat (first | (refine isO ?_; refine s_assign ?_) | (refine isC ?_; refine c_block ?_) | (refine l_th ?_))
    refine c_loop2 33538300 (fun (i : Nat) (pv : Value) => [(4, pv)]) (fun i pv W => i < L.length ∧ Ints W pv (L.getD i []) ∧ Ex w1 W) (fun i _ => L.length - i) 0 pv0 ⟨rfl, trivial⟩ ⟨hpos, by rw [hR.fst]; exact hL0.ints (by omega), hx2⟩ ?_
    rintro i pv ρ W ⟨hi, hI, hx⟩
    have hmp : mayP res (L.getD i []) = true := hR.ok i hi
    have hS := stepS_ok (res := res) (bids := bids) (ord := ord) (prices := L.getD i []) (by rw [hck, hmp]; rfl)
    repeat ((refine isC ?_; first | refine c_sr ?_ | refine c_block ?_))
    refine s_ldV Tryz.underlying54 rfl (sz_mk _ _ _) rfl (hZ1.ex hx) ?_
    repeat ((refine isO ?_; refine s_move ?_))
    have hct := Step13_ct rv bv ov pv res bids ord (L.getD i []) W (hM1.ex hx) hI
    rw [hS] at hct
    by_cases hl : i + 1 < L.length
    · rw [hR.nxt i hl] at hct
      refine s_call ok_Step13 rfl hct ?_
      rintro u W1 ⟨v, rfl, hI1, hx1W⟩
      repeat (first | (refine isO ?_; first | refine s_move ?_ | refine s_assign ?_ | refine s_extract rfl rfl ?_ | refine s_not rfl ?_) | (refine isC ?_; first | refine c_sr ?_ | refine c_th ?_ | refine c_seq ?_ | refine c_region ?_ | refine c_iff rfl ?_) | (first | refine l_th ?_ | refine th_norm ?_ | refine ib_norm ?_ | refine l_nil ?_))
      exact loop_end2 (i + 1) v (by (repeat (first | exact agree_refl _ _ | refine agree_upd rfl ?_ | refine agree_ext rfl ?_ | refine agree_mask rfl ?_))) ⟨rfl, trivial⟩ ⟨hl, hI1, hx.trans hx1W⟩ (by show L.length - (i + 1) < L.length - i; omega)
    · have hie : i = L.length - 1 := by omega
      have hlst : stepR bids (L.getD i []) res.length = none := by rw [hie]; exact hR.lst
      rw [hlst] at hct
      refine s_call ok_Step13 rfl hct ?_
      rintro u W1 ⟨v, rfl, hI1, hx1W⟩
      have hIe : Ints W1 pv (endL L) := by unfold endL; rw [← hie]; exact hI.ex hx1W
      repeat (first | (refine isO ?_; first | refine s_move ?_ | refine s_assign ?_ | refine s_extract rfl rfl ?_ | refine s_not rfl ?_) | (refine isC ?_; first | refine c_sr ?_ | refine c_seq ?_ | refine c_ift rfl ?_ | refine c_ret ?_) | (first | refine l_th ?_ | refine th_ret ?_ | refine ib_ret ?_))
      exact ret2 rfl rfl rfl ⟨pv, rfl, hIe, hx01.trans (hx.trans hx1W)⟩
  · refine s_re (v' := .bool false) (vbool hck) ?_
    rw [leastS_bad hck]
    repeat (first | (refine isO ?_; first | refine s_assign ?_ | refine s_not rfl ?_) | (refine isC ?_; first | refine c_sr ?_ | refine c_ift rfl ?_ | refine c_ret ?_) | (first | refine l_th ?_ | refine th_ret ?_))
    exact ret2 rfl rfl rfl ⟨.slice none 0 0, rfl, Ints.nil _, hx01⟩
theorem Step_all (rv bv ov pv : Value) (res : List Int) (bids : List (List Int)) (ord prices : List Int) (w : World) (hM : Mk w rv bv ov res bids ord) (hp : Ints w pv prices) :
    Ct Tryz.prog 24 #[.agg #[rv, bv, ov], pv] w fun u w' => ∃ v, u = .tuple #[v, .bool (stepS res bids ord prices).2.1, .int .i64 (stepS res bids ord prices).2.2] ∧ OwI w w' v (stepS res bids ord prices).1 ∧ Ints w' v (stepS res bids ord prices).1 ∧ (stepS res bids ord prices).1.length ≤ 8 ∧ Ex w w' := by
  rcases tfV (chkM res bids ord && mayP res prices) with h | h
  · rw [stepS_ok h]
    rw [Bool.and_eq_true] at h
    have hOK := mkok h.1
    have hn8 := hOK.n8
    obtain ⟨hlen, _⟩ := mayP_D h.1 h.2
    have hl : ((stepR bids prices res.length).getD prices).length = res.length := by
      unfold stepR
      cases setR bids prices res.length with
      | none => exact hlen
      | some l => simp only [Option.getD_some]; rw [raise_len]; exact hlen
    refine (Step_ok rv bv ov pv res bids ord prices w hM hp h.1 h.2).mono fun u w' ⟨b, hu, hO, hb, hx⟩ => ⟨_, hu, hO.owi hl (by omega) hb, ?_, by show ((stepR bids prices res.length).getD prices).length ≤ 8; omega, hx⟩
    have := hO.ints
    rwa [hl] at this
  · rw [stepS_bad h]
    exact (Step_bad rv bv ov pv res bids ord prices w hM hp h).mono fun u w' ⟨hu, hx⟩ => ⟨_, hu, OwI.nil _ _, Ints.nil _, by simp, hx⟩
theorem Least_all (rv bv ov : Value) (res : List Int) (bids : List (List Int)) (ord : List Int) (w : World) (hM : Mk w rv bv ov res bids ord) :
    Ct Tryz.prog 26 #[.agg #[rv, bv, ov]] w fun u w' => ∃ v, u = .tuple #[v, .int .i64 (leastS res bids ord).2] ∧ OwI w w' v (leastS res bids ord).1 ∧ Ints w' v (leastS res bids ord).1 ∧ (leastS res bids ord).1.length ≤ 8 ∧ Ex w w' := by
  rcases tfV (chkM res bids ord) with h | h
  · obtain ⟨L, hR, hLg, hS⟩ := leastS_ok h
    have hOK := mkok h
    have hn8 := hOK.n8
    have hl : (endL L).length = res.length := (run_end hOK hR hLg).2.1
    rw [hS]
    refine (Least_ok rv bv ov res bids ord L w hM h hR).mono fun u w' ⟨b, hu, hO, hb, hx⟩ => ⟨_, hu, OwnI.owi (l := endL L) hO hl (by omega) hb, ?_, by show (endL L).length ≤ 8; omega, hx⟩
    have := hO.ints
    rw [show (L.getD (L.length - 1) []).length = res.length from hl] at this
    exact this
  · rw [leastS_bad h]
    exact (Least_bad rv bv ov res bids ord w hM h).mono fun u w' ⟨hu, hx⟩ => ⟨_, hu, OwI.nil _ _, Ints.nil _, by simp, hx⟩
set_option maxHeartbeats 4000000 in
theorem MarketSize_ct (rv bv ov : Value) (res : List Int) (bids : List (List Int)) (ord : List Int) (w : World) (hM : Mk w rv bv ov res bids ord) :
    Ct Tryz.prog 21 #[.agg #[rv, bv, ov]] w fun u w' => (∃ n : Int, u = .int .i64 n ∧ (n ≤ 1000 → res.length ≤ 1000 ∧ bids.length ≤ 3000 ∧ (∀ i, i < bids.length → (bids.getD i []).length ≤ 3000) ∧ ord.length ≤ 1000)) ∧ Ex w w' := by
  have hlr := hM.r.len
  have hlo := hM.o.len
  refine enter (N := 26) (vs := [.agg #[rv, bv, ov]]) Tryz.func21 rfl rfl rfl ?_
  repeat ((refine isC ?_; refine c_sr ?_))
  refine s_box (cs := [rv, bv, ov]) rfl rfl ?_
  intro b0 w0 hb0 hZ hx0 hs0
  have hM0 := hM.ex hx0
  have hr0 := hM0.r
  repeat (first | (refine isO ?_; first | refine s_move ?_ | refine s_assign ?_ | (refine isBin ?_; refine s_leqT rfl rfl (by omega) ?_) | (refine isLD ?_; refine s_ldA ty_ints rfl (by assumption) rfl ?_)) | (refine isO ?_; refine s_fa Tryz.underlying54 rfl ty_ints rfl ?_) | (refine isC ?_; first | refine c_sr ?_ | refine c_seq ?_ | refine c_region ?_ | refine c_ift rfl ?_) | (refine l_th ?_))
  refine s_call ok_IntsSize rfl (IntsSize_ct rv res w0 hr0) ?_
  rintro u w1 ⟨rfl, hx1⟩
  have hx01 := hx0.trans hx1
  have hZ1 := hZ.ex hx1
  have hM1 := hM0.ex hx1
  by_cases h1 : 1 + (res.length : Int) ≤ 1048576
  · repeat (first | (refine isO ?_; first | refine s_move ?_ | refine s_assign ?_ | (refine isBin ?_; first | refine s_leqT rfl rfl (by omega) ?_ | refine s_add rfl rfl ⟨by omega, by omega⟩ ?_)) | (refine isO ?_; first | refine s_fa Tryz.underlying54 rfl ty_rows rfl ?_ | refine s_ldA ty_rows rfl (by assumption) rfl ?_) | (refine isC ?_; first | refine c_sr ?_ | refine c_seq ?_ | refine c_region ?_ | refine c_ift rfl ?_) | (refine l_th ?_))
    refine s_call ok_LSize13 rfl (IntListsSizeV_ct bv bids w1 hM1.b) ?_
    rintro u w2 ⟨⟨q, rfl, hq0, hq1, hq⟩, hx2⟩
    have hx02 := hx01.trans hx2
    have hZ2 := hZ1.ex hx2
    have hM2 := hM1.ex hx2
    by_cases h2 : 1 + (res.length : Int) + q ≤ 1048576
    · repeat (first | (refine isO ?_; first | refine s_move ?_ | refine s_assign ?_ | (refine isBin ?_; first | refine s_leqT rfl rfl (by omega) ?_ | refine s_add rfl rfl ⟨by omega, by omega⟩ ?_) | (refine isLD ?_; refine s_ldA ty_ints rfl (by assumption) rfl ?_)) | (refine isO ?_; refine s_fa Tryz.underlying54 rfl ty_ints rfl ?_) | (refine isC ?_; first | refine c_sr ?_ | refine c_seq ?_ | refine c_region ?_ | refine c_ift rfl ?_) | (refine l_th ?_))
      refine s_call ok_IntsSize rfl (IntsSize_ct ov ord w2 hM2.o) ?_
      rintro u w3 ⟨rfl, hx3⟩
      repeat (first | (refine isO ?_; first | refine s_move ?_ | refine s_assign ?_ | (refine isBin ?_; refine s_add rfl rfl ⟨by omega, by omega⟩ ?_)) | (refine isC ?_; first | refine c_sr ?_ | refine c_ret ?_) | (refine l_th ?_))
      exact ret1 rfl rfl ⟨⟨_, rfl, fun h => ⟨by omega, (hq (by omega)).1, (hq (by omega)).2, by omega⟩⟩, hx02.trans hx3⟩
    · repeat (first | (refine isO ?_; first | refine s_move ?_ | refine s_assign ?_ | (refine isBin ?_; first | refine s_leqF rfl rfl (by omega) ?_ | refine s_add rfl rfl ⟨by omega, by omega⟩ ?_)) | (refine isC ?_; first | refine c_sr ?_ | refine c_th ?_ | refine c_seq ?_ | refine c_iff rfl ?_ | refine c_ret ?_) | (refine l_th ?_))
      exact ret1 rfl rfl ⟨⟨_, rfl, fun h => by omega⟩, hx02⟩
  · repeat (first | (refine isO ?_; first | refine s_move ?_ | refine s_assign ?_ | (refine isBin ?_; first | refine s_leqF rfl rfl (by omega) ?_ | refine s_add rfl rfl ⟨by omega, by omega⟩ ?_)) | (refine isC ?_; first | refine c_sr ?_ | refine c_th ?_ | refine c_seq ?_ | refine c_iff rfl ?_ | refine c_ret ?_) | (refine l_th ?_))
    exact ret1 rfl rfl ⟨⟨_, rfl, fun h => by omega⟩, hx01⟩
/-- A twin of a market, with the marks behind its lists; these are laid one behind the other. -/
structure MkD (w0 w : World) (na nb : Nat) (b1 c1 b2 c2 : Nat) (rb rc : Nat → Nat) (b3 c3 : Nat) (res : List Int) (bids : List (List Int)) (ord : List Int) : Prop where
  r : TwI w b1 c1 res
  b : TwL w b2 c2 rb rc bids
  o : TwI w b3 c3 ord
  l1 : w0.heap.size ≤ b1
  a1 : b1 < na
  l2 : na ≤ b2
  lr : ∀ i, i < bids.length → na ≤ rb i
  a2 : b2 < nb
  ar : ∀ i, i < bids.length → rb i < nb
  l3 : nb ≤ b3
theorem MkD.ex {w0 w w' : World} {na nb b1 c1 b2 c2 : Nat} {rb rc : Nat → Nat} {b3 c3 : Nat} {res : List Int} {bids : List (List Int)} {ord : List Int} (h : MkD w0 w na nb b1 c1 b2 c2 rb rc b3 c3 res bids ord) (hx : Ex w w') : MkD w0 w' na nb b1 c1 b2 c2 rb rc b3 c3 res bids ord :=
  { h with r := h.r.ex hx, b := h.b.ex hx, o := h.o.ex hx }
theorem MkD.mk' {w0 w : World} {na nb b1 c1 b2 c2 : Nat} {rb rc : Nat → Nat} {b3 c3 : Nat} {res : List Int} {bids : List (List Int)} {ord : List Int} (h : MkD w0 w na nb b1 c1 b2 c2 rb rc b3 c3 res bids ord) : Mk w (sv b1 res.length c1) (sv b2 bids.length c2) (sv b3 ord.length c3) res bids ord := ⟨h.r.ints, h.b.rows, h.o.ints⟩
end Go.Proofs.YtifbgpkjbciblaaGreatDoor.Sal
end
section
/- Core21: a region some of whose operations may go in any order: each is shown once, whatever went ahead. -/
set_option maxRecDepth 100000
namespace Go.Proofs.YtifbgpkjbciblaaGreatDoor.Sal
set_option linter.all false
open Go.RowKit
section any
variable {r : Option Nat} {P : Program} {ops : Array Oper} {Q : Exit → Act → World → Prop}
def cl (listed : Array Bool) : Nat → Nat
  | 0 => 0
  | n + 1 => cl listed n + if listed.getD n false = true then 1 else 0
section go
variable {N m : Nat} {dl : List Nat} {F : Nat → Nat → Nat → Value → World → Prop} {σ0 : Nat → Value} {ds : List Deferred} {w0 : World}
end go
end any
end Go.Proofs.YtifbgpkjbciblaaGreatDoor.Sal
end
section
/- V23: one bids alone; all bid the same. -/
set_option maxRecDepth 100000
namespace Go.Proofs.YtifbgpkjbciblaaGreatDoor.Sal
open Go.RowKit
set_option linter.all false
/-- What all bid. -/
def wq (r : Int) (x : Nat) : Int := if r + (x : Int) < 1000000 then r + (x : Int) else 1000000
def wL (res : List Int) (x k : Nat) : List Int := (List.range k).map fun j => wq (res.getD j 0) x
def wB (res : List Int) (m x : Nat) : List (List Int) := (List.range m).map fun _ => wL res x res.length
end Go.Proofs.YtifbgpkjbciblaaGreatDoor.Sal
end
section
/- markets.Without. -/
set_option maxRecDepth 100000
namespace Go.Proofs.YtifbgpkjbciblaaGreatDoor.Sal
open Go.RowKit
/-- Numbers in a block of numbers, or none. -/
def IB (w : World) (v : Value) (l : List Int) : Prop := (∃ a c, v = .slice a l.length c) ∧ Ints w v l ∧ ∀ b, v.ownBlock = some b → ∃ cs, At w b 3 cs
theorem IB.ex {w w' : World} {v : Value} {l : List Int} (h : IB w v l) (hx : Ex w w') : IB w' v l := ⟨h.1, h.2.1.ex hx, fun b hb => let ⟨cs, hc⟩ := h.2.2 b hb; ⟨cs, hc.ex hx⟩⟩
theorem ty_ne {w : World} {b : Nat} {E T : TypeId} {cs ds : List Value} (h1 : At w b E cs) (h2 : At w b T ds) : E = T := by
  unfold At at h1 h2
  rw [h1] at h2
  have h3 := Option.some.inj h2
  rw [Obj.cells.injEq] at h3
  exact h3.2.1
theorem IB.kept {w w' : World} {v : Value} {l : List Int} {b : Nat} {T : TypeId} {cs : List Value} (h : IB w v l) (hA : At w b T cs) (hT : (T == 3) = false) (hg : w.grownBy w' (some b)) : IB w' v l := by
  have hne : v.ownBlock ≠ some b := fun e => by
    obtain ⟨ds, hd⟩ := h.2.2 b e
    have := ty_ne hA hd
    rw [this] at hT; simp at hT
  refine ⟨h.1, h.2.1.kept hg (.inr hne), fun b' hb' => ?_⟩
  obtain ⟨ds, hd⟩ := h.2.2 b' hb'
  exact ⟨ds, hd.grown hg (fun e => hne (by rw [hb', ← e]))⟩
theorem LI.ib {w0 w : World} {v : Value} {l : List Int} (h : LI w0 w 3 v l) (hm : l.length ≤ 1000000) : IB w v l := by
  refine ⟨h.form, h.ints hm, fun b hb => ?_⟩
  rcases h.1.form with ⟨rfl, _⟩ | ⟨b', cap, sp, rfl, hA, _⟩
  · cases hb
  · have : b' = b := Option.some.inj hb
    subst this
    exact ⟨_, hA⟩
theorem IB.nil (w : World) : IB w (.slice none 0 0) [] := ⟨⟨none, 0, rfl⟩, Ints.nil w, fun b hb => by cases hb⟩
theorem IB.ints {w : World} {v : Value} {l : List Int} (h : IB w v l) : Ints w v l := h.2.1
theorem IB.one {w : World} {v : Value} {l : List Int} (h : IB w v l) : v.oneCell' = true := by obtain ⟨a, c, rfl⟩ := h.1; rfl
/-- What stands in the temporaries as Without lays its answer. -/
def FWo (b0 W0 : Nat) (rv bv ov : Value) (res : List Int) (bids : List (List Int)) (ord : List Int) : Nat → Nat → Nat → Value → World → Prop
  | 0, _, _, v, _ => v = .pointer (some ⟨b0, 0, none⟩)
  | 1, _, _, v, _ => v = rv
  | 2, _, _, v, w => IB w v res
  | 3, _, _, v, w => IB w v res
  | 4, _, _, v, _ => v = .pointer (some ⟨b0, 1, none⟩)
  | 5, _, _, v, _ => v = bv
  | 6, _, _, v, _ => v = .int .i64 (bids.length : Int)
  | 7, _, _, v, w => ∃ bM, v = sv bM bids.length bids.length ∧ At w bM 25 (List.replicate bids.length (.slice none 0 0)) ∧ W0 ≤ bM
  | 8, _, _, v, _ => v = .pointer (some ⟨b0, 2, none⟩)
  | 9, _, _, v, _ => v = ov
  | 10, _, _, v, w => IB w v ord
  | 11, _, _, v, w => IB w v ord
  | 12, _, _, v, w => ∃ rv' bM ov', v = .agg #[rv', sv bM bids.length bids.length, ov'] ∧ IB w rv' res ∧ (At w bM 25 (List.replicate bids.length (.slice none 0 0)) ∧ W0 ≤ bM) ∧ IB w ov' ord
  | 13, _, _, v, w => ∃ bX, v = .pointer (some ⟨bX, 0, none⟩) ∧ At w bX 54 [.slice none 0 0, .slice none 0 0, .slice none 0 0] ∧ W0 ≤ bX
  | _, _, _, _, _ => True
theorem FWo.ex {b0 W0 : Nat} {rv bv ov : Value} {res : List Int} {bids : List (List Int)} {ord : List Int} : ∀ (i lo hi : Nat) (v : Value) (w w' : World), FWo b0 W0 rv bv ov res bids ord i lo hi v w → Ex w w' → FWo b0 W0 rv bv ov res bids ord i lo hi v w'
  | 0, _, _, _, _, _, h, _ => h
  | 1, _, _, _, _, _, h, _ => h
  | 2, _, _, _, _, _, h, hx => IB.ex h hx
  | 3, _, _, _, _, _, h, hx => IB.ex h hx
  | 4, _, _, _, _, _, h, _ => h
  | 5, _, _, _, _, _, h, _ => h
  | 6, _, _, _, _, _, h, _ => h
  | 7, _, _, _, _, _, h, hx => let ⟨bM, h1, h2, h3⟩ := h; ⟨bM, h1, h2.ex hx, h3⟩
  | 8, _, _, _, _, _, h, _ => h
  | 9, _, _, _, _, _, h, _ => h
  | 10, _, _, _, _, _, h, hx => IB.ex h hx
  | 11, _, _, _, _, _, h, hx => IB.ex h hx
  | 12, _, _, _, _, _, h, hx => let ⟨a, b, c, h1, h2, h3, h4⟩ := h; ⟨a, b, c, h1, h2.ex hx, ⟨h3.1.ex hx, h3.2⟩, h4.ex hx⟩
  | 13, _, _, _, _, _, h, hx => let ⟨bM, h1, h2, h3⟩ := h; ⟨bM, h1, h2.ex hx, h3⟩
  | (_ + 14), _, _, _, _, _, _, _ => trivial
attribute [local irreducible] Go.Code.wpIn Go.wpListIn Ct Ints Rows Sl At Rw WJ
attribute [local irreducible] IB
set_option linter.all false
end Go.Proofs.YtifbgpkjbciblaaGreatDoor.Sal
end
section
/- RR6: a market's twin, whether it was left as it was, and what a Book is told of it. -/
set_option maxRecDepth 100000
namespace Go.Proofs.YtifbgpkjbciblaaGreatDoor.Sal
open Go.RowKit
set_option linter.all false
theorem TwI.keptT {w w' : World} {b c d : Nat} {l : List Int} {T : TypeId} {cs : List Value} (h : TwI w b c l) (hg : w.grownBy w' (some d)) (hA : At w d T cs) (hT : (T == 3) = false) : TwI w' b c l := by
  refine h.grown hg fun e => ?_
  obtain ⟨sp, h1, _⟩ := h
  have := Option.some.inj e
  subst this
  have := ty_ne hA h1
  rw [this] at hT; simp at hT
theorem TwL.keptT {w w' : World} {b c d : Nat} {rb rc : Nat → Nat} {g : List (List Int)} {T : TypeId} {cs : List Value} (h : TwL w b c rb rc g) (hg : w.grownBy w' (some d)) (hA : At w d T cs) (hT : (T == 3) = false) (hT2 : (T == 25) = false) : TwL w' b c rb rc g := by
  obtain ⟨⟨eb, sp, h1, h2, h3⟩, h4, h5, h6, h7, h8⟩ := h
  refine ⟨⟨eb, sp, h1.grown hg fun e => ?_, h2.grown hg fun e => ?_, h3⟩, h4, h5, h6, fun i hi => ⟨(h7 i hi).1.keptT hg hA hT, (h7 i hi).2⟩, h8⟩
  · have := Option.some.inj e
    subst this
    have := ty_ne hA h1
    rw [this] at hT2; simp at hT2
  · have := Option.some.inj e
    subst this
    have := ty_ne hA h2
    rw [this] at hT; simp at hT
theorem MkD.keptT {w0 w w' : World} {na nb b1 c1 b2 c2 : Nat} {rb rc : Nat → Nat} {b3 c3 d : Nat} {res : List Int} {bids : List (List Int)} {ord : List Int} {T : TypeId} {cs : List Value} (h : MkD w0 w na nb b1 c1 b2 c2 rb rc b3 c3 res bids ord) (hg : w.grownBy w' (some d)) (hA : At w d T cs) (hT : (T == 3) = false) (hT2 : (T == 25) = false) : MkD w0 w' na nb b1 c1 b2 c2 rb rc b3 c3 res bids ord :=
  { h with r := h.r.keptT hg hA hT, b := h.b.keptT hg hA hT hT2, o := h.o.keptT hg hA hT }
theorem BkQ.exB {lo : Nat} {wB w : World} {bk M top : Nat} (h : BkQ lo wB w bk M top) : Ex wB w := by
  obtain ⟨ns, nl, L, ln, vi, vl, hB, _⟩ := h
  exact hB.ex
attribute [local irreducible] Go.Code.wpIn Go.wpListIn Ct Ints Rows Sl At Rw WJ
attribute [local irreducible] Wd
set_option maxHeartbeats 4000000 in
theorem TwinMarketD_ct (rv bv ov : Value) (res : List Int) (bids : List (List Int)) (ord : List Int) (w : World) (hM : Mk w rv bv ov res bids ord) (h1 : res.length ≤ 10000) (h2 : bids.length ≤ 10000) (h3 : ∀ i, i < bids.length → (bids.getD i []).length ≤ 10000) (h4 : ord.length ≤ 10000) :
    Ct Tryz.prog 23 #[.agg #[rv, bv, ov]] w fun u w' => ∃ (wa wb : World) (b1 c1 b2 c2 : Nat) (rb rc : Nat → Nat) (b3 c3 : Nat), u = .agg #[sv b1 res.length c1, sv b2 bids.length c2, sv b3 ord.length c3] ∧ MkD w w' wa.heap.size wb.heap.size b1 c1 b2 c2 rb rc b3 c3 res bids ord ∧ w.heap.size ≤ wa.heap.size ∧ wa.heap.size ≤ wb.heap.size ∧ wb.heap.size ≤ w'.heap.size ∧ b3 < w'.heap.size ∧ Ex w w' := by
  refine Exists.elim in_mkt fun ti hti => ?_
  refine enter (N := 13) (vs := [.agg #[rv, bv, ov]]) Tryz.func23 rfl rfl rfl ?_
  repeat ((refine isC ?_; refine c_sr ?_))
  refine s_box (cs := [rv, bv, ov]) rfl rfl ?_
  intro b0 w0 hb0 hZ hx0 hs0
  refine s_alloc (cs := [.slice none 0 0, .slice none 0 0, .slice none 0 0]) hti.1 hti.2 rfl ?_
  intro bt w1 hbt hT hx1 hs1
  have hx01 := hx0.trans hx1
  have hZ1 := hZ.ex hx1
  have hM1 := hM.ex hx01
  repeat (first | (refine isC ?_; refine c_seq ?_) | (refine l_th ?_))
  refine c_drawO (Ex.refl w1) 1024 8 [(0, true), (1, true), (3, true), (4, true), (6, true), (7, true), (2, false), (5, false), (8, false), (9, false), (10, false)] mixed (by kernel_rfl) ?_
  have hxd := Ex.drew w1
  refine d_fa rfl Tryz.underlying54 rfl ty_ints rfl ?_
  refine d_ldA rfl ty_ints rfl hZ1 rfl ?_
  refine d_fa rfl Tryz.underlying54 rfl ty_rows rfl ?_
  refine d_ldA rfl ty_rows rfl hZ1 rfl ?_
  refine d_fa rfl Tryz.underlying54 rfl ty_ints rfl ?_
  refine d_ldA rfl ty_ints rfl hZ1 rfl ?_
  refine d_ch rfl ?_
  refine s_call ok_TwinInts rfl (TwinIntsW_ct rv res w1.drew (hM1.r.ex hxd) h1) ?_
  rintro u w2 ⟨b1, c1, rfl, hb1, hO1, hx2⟩
  have hx12 := hxd.trans hx2
  refine l_nil ⟨rfl, .inr hx12, ?_⟩
  refine d_ch rfl ?_
  refine s_call ok_TwinIntLists rfl (TwinIntListsW_ct bv bids w2 (hM1.b.ex hx12) h2 h3) ?_
  rintro u w3 ⟨b2, c2, rb, rc, rfl, hb2, hrb, hMt, hx3⟩
  have hx13 := hx12.trans hx3
  refine l_nil ⟨rfl, .inr hx13, ?_⟩
  refine d_ch rfl ?_
  refine s_call ok_TwinInts rfl (TwinIntsW_ct ov ord w3 (hM1.o.ex hx13) h4) ?_
  rintro u w4 ⟨b3, c3, rfl, hb3, hO3, hx4⟩
  have hx14 := hx13.trans hx4
  refine l_nil ⟨rfl, .inr hx14, ?_⟩
  refine d_ch rfl ?_
  refine s_bldW (cells := [sv b1 res.length c1, sv b2 bids.length c2, sv b3 ord.length c3]) (built_mk _ _ _ _ _ _ _ _ _) ?_
  refine l_nil ⟨rfl, .inr hx14, ?_⟩
  refine d_ch rfl ?_
  refine s_stV (cs := [sv b1 res.length c1, sv b2 bids.length c2, sv b3 ord.length c3]) (sz_mk _ _ _) rfl rfl (hT.ex hx14) rfl rfl ?_
  intro w5 hA5 hg5 hs5
  refine l_nil ⟨rfl, .inl rfl, ?_⟩
  refine d_nil ?_
  have z0 := hx0.size
  have z1 := hx1.size
  have zd := hxd.size
  have z2 := hx2.size
  have z3 := hx3.size
  have z4 := hx4.size
  have lT := hT.lt
  have o1 := hO1.lt
  have hWd := hMt.wd
  have o2 : b2 < w3.heap.size := hWd.lt b2 rfl
  have o3 : ∀ i, i < bids.length → TwI w3 (rb i) (rc i) (bids.getD i []) ∧ rb i ≠ b2 := fun i hi => hMt.2.2.2.2.1 i hi
  have hx05 : Ex w w5 := (hx01.trans hx14).store hg5 (by omega)
  have hT4 := hT.ex hx14
  have h5r := (hO1.ex (hx3.trans hx4)).keptT hg5 hT4 (by decide)
  have h5b := (hMt.ex hx4).keptT hg5 hT4 (by decide) (by decide)
  have h5o := hO3.keptT hg5 hT4 (by decide)
  have z5 := hg5.size
  repeat ((refine isC ?_; refine c_ret ?_))
  exact ret_cV rfl rfl Tryz.underlying54 rfl (sz_mk _ _ _) hA5 ⟨w2, w3, b1, c1, b2, c2, rb, rc, b3, c3, rfl,
    { r := h5r, b := h5b, o := h5o, l1 := by omega, a1 := o1, l2 := hb2, lr := hrb, a2 := o2, ar := fun i hi => (o3 i hi).1.lt, l3 := hb3 }, by omega, by omega, by omega, by have := hO3.lt; omega, hx05⟩
set_option maxHeartbeats 4000000 in
theorem LeftMarket_ct (w0 : World) (na nb b1 c1 b2 c2 : Nat) (rb rc : Nat → Nat) (b3 c3 : Nat) (rv bv ov : Value) (res : List Int) (bids : List (List Int)) (ord : List Int) (w : World) (hD : MkD w0 w na nb b1 c1 b2 c2 rb rc b3 c3 res bids ord) (hM : Mk w rv bv ov res bids ord) :
    Ct Tryz.prog 29 #[.agg #[sv b1 res.length c1, sv b2 bids.length c2, sv b3 ord.length c3], .agg #[rv, bv, ov]] w fun u w' => u = .bool true ∧ Ex w w' := by
  refine enter (N := 24) (vs := [.agg #[sv b1 res.length c1, sv b2 bids.length c2, sv b3 ord.length c3], .agg #[rv, bv, ov]]) Tryz.func29 rfl rfl rfl ?_
  repeat ((refine isC ?_; refine c_sr ?_))
  refine s_box (cs := [sv b1 res.length c1, sv b2 bids.length c2, sv b3 ord.length c3]) rfl rfl ?_
  intro e0 w1 he0 hX hx1 hs1
  refine s_box (cs := [rv, bv, ov]) rfl rfl ?_
  intro e1 w2 he1 hY hx2 hs2
  have hx02 := hx1.trans hx2
  have hX2 := hX.ex hx2
  have hD2 := hD.ex hx02
  have hM2 := hM.ex hx02
  repeat (first | (refine isO ?_; first | refine s_assign ?_ | (refine isLD ?_; refine s_ldA ty_ints rfl (by assumption) rfl ?_)) | (refine isO ?_; refine s_fa Tryz.underlying54 rfl ty_ints rfl ?_) | (refine isC ?_; refine c_sr ?_) | (refine l_th ?_))
  refine s_call ok_LeftInts rfl (LeftInts_ct b1 c1 res rv w2 hD2.r hM2.r) ?_
  rintro u w3 ⟨rfl, hx3⟩
  have hX3 := hX2.ex hx3
  have hY3 := hY.ex hx3
  have hD3 := hD2.ex hx3
  have hM3 := hM2.ex hx3
  repeat (first | (refine isO ?_; first | refine s_move ?_ | (refine isG ?_; refine g_yes rfl rfl ?_)) | (refine isO ?_; first | refine s_fa Tryz.underlying54 rfl ty_rows rfl ?_ | refine s_ldA ty_rows rfl (by assumption) rfl ?_))
  refine s_call ok_LeftIntLists rfl (LeftIntLists_ct b2 c2 rb rc bids bv w3 hD3.b hM3.b) ?_
  rintro u w4 ⟨rfl, hx4⟩
  have hX4 := hX3.ex hx4
  have hY4 := hY3.ex hx4
  have hD4 := hD3.ex hx4
  have hM4 := hM3.ex hx4
  repeat (first | (refine isO ?_; first | refine s_move ?_ | (refine isG ?_; refine g_yes rfl rfl ?_) | (refine isPick ?_; refine s_pickt rfl rfl ?_) | (refine isLD ?_; refine s_ldA ty_ints rfl (by assumption) rfl ?_)) | (refine isO ?_; refine s_fa Tryz.underlying54 rfl ty_ints rfl ?_))
  refine s_call ok_LeftInts rfl (LeftInts_ct b3 c3 ord ov w4 hD4.o hM4.o) ?_
  rintro u w5 ⟨rfl, hx5⟩
  repeat (first | (refine isO ?_; first | refine s_assign ?_ | (refine isPick ?_; refine s_pickt rfl rfl ?_)) | (refine isC ?_; refine c_ret ?_) | (refine l_th ?_))
  exact ret1 rfl rfl ⟨rfl, ((hx02.trans hx3).trans hx4).trans hx5⟩
set_option maxHeartbeats 4000000 in
theorem bqMarket_ct (w0 wB w : World) (bk na nb b1 c1 b2 c2 : Nat) (rb rc : Nat → Nat) (b3 c3 top : Nat) (res : List Int) (bids : List (List Int)) (ord : List Int) (wa wb : World) (h : BkQ w0.heap.size wB w bk 0 w0.heap.size) (hD : MkD w0 wB na nb b1 c1 b2 c2 rb rc b3 c3 res bids ord) (hwa : wa.heap.size = na) (hwb : wb.heap.size = nb) (hab : na ≤ nb) (h0 : w0.heap.size ≤ na) (ht : b3 < top) (htt : nb ≤ top)
    (hr : res.length ≤ 1000) (hb : bids.length ≤ 3000) (hbl : ∀ i, i < bids.length → (bids.getD i []).length ≤ 3000) (ho : ord.length ≤ 1000) :
    Ct Tryz.prog 28 #[.pointer (some ⟨bk, 0, none⟩), .agg #[sv b1 res.length c1, sv b2 bids.length c2, sv b3 ord.length c3]] w fun u w' => u = .tuple #[] ∧ BkQ w0.heap.size wB w' bk (bids.length + 3) top := by
  have hlenr : ∀ j, (bids.getD j []).length ≤ 100000 := fun j => by
    by_cases hj : j < bids.length
    · have := hbl j hj; omega
    · rw [List.getD_eq_getElem?_getD, List.getElem?_eq_none (by omega)]; simp
  have hR : OwI w0 wB (sv b1 res.length c1) res := hD.r.ow hD.l1
  have hBo : OwL wa wB (sv b2 bids.length c2) _ bids := hD.b.ow (by have := hD.l2; omega) (fun i hi => by have := hD.lr i hi; omega)
  have hOo : OwI wb wB (sv b3 ord.length c3) ord := hD.o.ow (by have := hD.l3; omega)
  have hgl : ((List.range bids.length).map (fun i => sv (rb i) (bids.getD i []).length (rc i))).length = bids.length := by simp
  refine enter (N := 16) (vs := [.pointer (some ⟨bk, 0, none⟩), .agg #[sv b1 res.length c1, sv b2 bids.length c2, sv b3 ord.length c3]]) Tryz.func28 rfl rfl rfl ?_
  repeat ((refine isC ?_; refine c_sr ?_))
  refine s_box (cs := [sv b1 res.length c1, sv b2 bids.length c2, sv b3 ord.length c3]) rfl rfl ?_
  intro e0 w1 he0 hX hx1 hs1
  have hQ1 := h.exd hx1
  have hDs := hD.a1
  have hD3 := hD.a2
  have hlt2 := hD.b.wd.lt
  have hltr : ∀ (j : Nat) x b, ((List.range bids.length).map (fun i => sv (rb i) (bids.getD i []).length (rc i)))[j]? = some x → Value.ownBlock x = some b → b < nb := fun j x b hu hb => by
    have hj := (List.getElem?_eq_some_iff.1 hu).1
    rw [hgl] at hj
    simp [hj] at hu
    subst hu
    have : rb j = b := Option.some.inj hb
    have := hD.ar j hj
    omega
  have hQ0 : BkQ w0.heap.size wB w1 bk 0 w0.heap.size := hQ1
  repeat (first | (refine isO ?_; first | refine s_move ?_ | (refine isLD ?_; refine s_ldA ty_ints rfl (by assumption) rfl ?_)) | (refine isO ?_; refine s_fa Tryz.underlying54 rfl ty_ints rfl ?_) | (refine isC ?_; refine c_sr ?_) | (refine l_th ?_))
  refine s_call ok_bInts rfl (bqIntsF_ct w0.heap.size w0 wB w1 bk 0 w0.heap.size na (sv b1 res.length c1) res hQ0 hR (Nat.le_refl _) (Nat.le_refl _) h0 (fun b hb => by have : b1 = b := Option.some.inj hb; omega) (by omega) (by omega)) ?_
  rintro u w2 ⟨rfl, hQ2, hF2⟩
  have hX2 := hF2 _ _ _ (by decide) (by decide) (by decide) hX
  repeat (first | (refine isO ?_; refine s_move ?_) | (refine isO ?_; first | refine s_fa Tryz.underlying54 rfl ty_rows rfl ?_ | refine s_ldA ty_rows rfl (by assumption) rfl ?_) | (refine isC ?_; refine c_sr ?_) | (refine l_th ?_))
  refine s_call ok_bIntLists rfl (bqIntListsF_ct w0.heap.size wa wB w2 bk _ na nb (sv b2 bids.length c2) _ bids hQ2 hBo (by omega) (by omega) hab hltr (fun b hb => by have : b2 = b := Option.some.inj hb; omega) (by omega) hlenr (by omega)) ?_
  rintro u w3 ⟨rfl, hQ3, hF3⟩
  have hX3 := hF3 _ _ _ (by decide) (by decide) (by decide) hX2
  rw [hgl] at hQ3
  repeat (first | (refine isO ?_; first | refine s_move ?_ | (refine isLD ?_; refine s_ldA ty_ints rfl (by assumption) rfl ?_)) | (refine isO ?_; refine s_fa Tryz.underlying54 rfl ty_ints rfl ?_) | (refine isC ?_; refine c_region ?_) | (refine l_th ?_))
  refine s_call ok_bInts rfl (bqIntsF_ct w0.heap.size wb wB w3 bk _ nb top (sv b3 ord.length c3) ord hQ3 hOo (by omega) (by omega) htt (fun b hb => by have : b3 = b := Option.some.inj hb; omega) (by omega) (by omega)) ?_
  rintro u w4 ⟨rfl, hQ4, hF4⟩
  repeat ((refine l_nil ?_))
  refine end0 rfl ⟨rfl, ?_⟩
  rw [show bids.length + 3 = 0 + 1 + bids.length + 1 + 1 by omega]
  exact hQ4
end Go.Proofs.YtifbgpkjbciblaaGreatDoor.Sal
end
section
/- The walk of salesroomlaw13.RisesOf. -/
set_option maxRecDepth 100000
namespace Go.Proofs.YtifbgpkjbciblaaGreatDoor.Sal
open Go.RowKit
set_option linter.all false
theorem in_book13 : ∃ ti, Tryz.prog.info? 46 = some ti ∧ ti.zero = some (.agg (bkc 0 nilV nilV).toArray) := by
  have h : (Tryz.prog.info? 46).map (·.zero) = some (some (.agg (bkc 0 nilV nilV).toArray)) := by kernel_rfl
  cases hi : Tryz.prog.info? 46 with
  | none => rw [hi] at h; cases h
  | some ti => rw [hi] at h; exact ⟨ti, rfl, by simpa using h⟩
attribute [local irreducible] Go.Code.wpIn Go.wpListIn Ct Ints Rows Sl At Rw WJ
attribute [local irreducible] Wd TwI TwL BkQ
set_option maxHeartbeats 8000000 in
theorem RisesOf_ct (rv bv ov pv : Value) (res : List Int) (bids : List (List Int)) (ord prices : List Int) (w : World) (hM : Mk w rv bv ov res bids ord) (hp : Ints w pv prices) :
    Ct Tryz.prog 5 #[.agg #[rv, bv, ov], pv] w fun u w' => u = .bool true ∧ Ex w w' := by
  have hplen := hp.len
  refine Exists.elim in_mkt fun ti hti => ?_
  refine Exists.elim in_book13 fun tb htb => ?_
  refine enter (N := 102) (vs := [.agg #[rv, bv, ov], pv]) Tryz.func5 rfl rfl rfl ?_
  repeat ((refine isC ?_; refine c_sr ?_))
  refine s_box (cs := [rv, bv, ov]) rfl rfl ?_
  intro b0 w0 hb0 hZ hx0 hs0
  have hM0 := hM.ex hx0
  repeat (first | (refine isO ?_; refine s_assign ?_) | (refine isC ?_; first | refine c_sr ?_ | refine c_seq ?_) | (refine l_th ?_))
  refine s_ldV Tryz.underlying54 rfl (sz_mk _ _ _) rfl hZ ?_
  refine s_call ok_MSize rfl (MarketSize_ct rv bv ov res bids ord w0 hM0) ?_
  rintro u w1 ⟨⟨n, rfl, hsz⟩, hx1⟩
  have hx01 := hx0.trans hx1
  have hp1 := hp.ex hx01
  by_cases h1 : (1000 : Int) < n
  · repeat (first | (refine isO ?_; first | refine s_move ?_ | (refine isG ?_; refine g_no rfl rfl rfl ?_) | (refine isBin ?_; refine s_gtrT rfl rfl (by omega) ?_) | (refine isPick ?_; refine s_pickt rfl rfl ?_)) | (refine isC ?_; first | refine c_sr ?_ | refine c_ift rfl ?_) | (refine l_th ?_))
    refine s_call ok_lives rfl (lives_ct w1) ?_
    rintro u w2 ⟨rfl, hx2⟩
    repeat (first | (refine isO ?_; refine s_assign ?_) | (refine isC ?_; refine c_ret ?_) | (first | refine l_th ?_ | refine th_ret ?_))
    exact ret1 rfl rfl ⟨rfl, hx01.trans hx2⟩
  by_cases h2 : (1000 : Int) < (prices.length : Int)
  · repeat (first | (refine isO ?_; first | refine s_move ?_ | (refine isG ?_; refine g_yes rfl rfl ?_) | (refine isBin ?_; first | refine s_gtrT rfl rfl (by omega) ?_ | refine s_gtrF rfl rfl (by omega) ?_) | (refine isCall ?_; refine s_lenI sl_ints rfl (by assumption) ?_) | (refine isPick ?_; refine s_pickf rfl rfl ?_)) | (refine isC ?_; first | refine c_sr ?_ | refine c_ift rfl ?_) | (refine l_th ?_))
    refine s_call ok_lives rfl (lives_ct w1) ?_
    rintro u w2 ⟨rfl, hx2⟩
    repeat (first | (refine isO ?_; refine s_assign ?_) | (refine isC ?_; refine c_ret ?_) | (first | refine l_th ?_ | refine th_ret ?_))
    exact ret1 rfl rfl ⟨rfl, hx01.trans hx2⟩
  have hz := hsz (by omega)
  have hzr := hz.1
  have hzb := hz.2.1
  have hzl := hz.2.2.1
  have hzo := hz.2.2.2
  have hZ1 := hZ.ex hx1
  have hM1 := hM0.ex hx1
  repeat (first | (refine isO ?_; first | refine s_move ?_ | (refine isG ?_; refine g_yes rfl rfl ?_) | (refine isBin ?_; refine s_gtrF rfl rfl (by omega) ?_) | (refine isCall ?_; refine s_lenI sl_ints rfl (by assumption) ?_) | (refine isPick ?_; refine s_pickf rfl rfl ?_)) | (refine isC ?_; first | refine c_sr ?_ | refine c_th ?_ | refine c_iff rfl ?_) | (refine l_th ?_))
  refine s_ldV Tryz.underlying54 rfl (sz_mk _ _ _) rfl hZ1 ?_
  refine s_call ok_TwinMarket rfl (TwinMarketD_ct rv bv ov res bids ord w1 hM1 (by omega) (by omega) (fun i hi => by have := hzl i hi; omega) (by omega)) ?_
  rintro u w2 ⟨wa, wb, b1, c1, b2, c2, rb, rc, b3, c3, rfl, hD, hla, hab, hlb, hb3, hx2⟩
  refine s_alloc (cs := [.slice none 0 0, .slice none 0 0, .slice none 0 0]) hti.1 hti.2 rfl ?_
  intro bX w3 hbX hXA hx3 hs3
  refine s_stV (cs := [sv b1 res.length c1, sv b2 bids.length c2, sv b3 ord.length c3]) (sz_mk _ _ _) rfl rfl hXA rfl rfl ?_
  intro w4 hX4 hg4 hs4
  have z1 := hx1.size
  have z2 := hx2.size
  have z3 := hx3.size
  have z4 := hg4.size
  have hx24 : Ex w2 w4 := hx3.store hg4 (by omega)
  have hD4 := hD.ex hx24
  have hx14 := hx2.trans hx24
  have hp4 := hp1.ex hx14
  repeat (first | (refine isO ?_; refine s_move ?_) | (refine isC ?_; refine c_sr ?_) | (refine l_th ?_))
  refine s_call ok_TwinInts rfl (TwinIntsW_ct pv prices w4 hp4 (by omega)) ?_
  rintro u w5 ⟨bp, cp, rfl, hbp, hTp, hx5⟩
  have hD5 := hD4.ex hx5
  have hX5 := hX4.ex hx5
  have hx15 := hx14.trans hx5
  have hTpi := hTp.ints
  repeat (first | (refine isO ?_; refine s_assign ?_) | (refine isC ?_; refine c_sr ?_) | (refine l_th ?_))
  refine s_ldV Tryz.underlying54 rfl (sz_mk _ _ _) rfl hX5 ?_
  repeat ((refine isO ?_; refine s_move ?_))
  refine s_call ok_Step rfl (Step_all _ _ _ _ res bids ord prices w5 hD5.mk' hTpi) ?_
  rintro u w6 ⟨va, rfl, hOa, hIa, ha8, hx6⟩
  have hx16 := hx15.trans hx6
  have hZ6 := hZ1.ex hx16
  have hM6 := hM1.ex hx16
  have hp6 := hp1.ex hx16
  have hX6 := hX5.ex hx6
  repeat (first | (refine isO ?_; first | refine s_move ?_ | refine s_assign ?_ | refine s_extract rfl rfl ?_) | (refine isC ?_; refine c_sr ?_) | (refine l_th ?_))
  refine s_ldV Tryz.underlying54 rfl (sz_mk _ _ _) rfl hZ6 ?_
  repeat ((refine isO ?_; refine s_move ?_))
  refine s_call ok_Step13 rfl (Step13_ct rv bv ov pv res bids ord prices w6 hM6 hp6) ?_
  rintro u w7 ⟨vb, rfl, hIb, hx7⟩
  have hx17 := hx16.trans hx7
  have hX7 := hX6.ex hx7
  have hD7 := hD5.ex (hx6.trans hx7)
  repeat (first | (refine isO ?_; first | refine s_move ?_ | refine s_assign ?_ | refine s_extract rfl rfl ?_) | (refine isC ?_; refine c_sr ?_) | (refine l_th ?_))
  refine s_ldV Tryz.underlying54 rfl (sz_mk _ _ _) rfl hX7 ?_
  refine s_call ok_rLeast rfl (Least_all _ _ _ res bids ord w7 hD7.mk') ?_
  rintro u w8 ⟨vc, rfl, hOc, hIc, hc8, hx8⟩
  have hx18 := hx17.trans hx8
  have hZ8 := hZ1.ex hx18
  have hM8 := hM1.ex hx18
  repeat (first | (refine isO ?_; first | refine s_move ?_ | refine s_assign ?_ | refine s_extract rfl rfl ?_) | (refine isC ?_; refine c_sr ?_) | (refine l_th ?_))
  refine s_ldV Tryz.underlying54 rfl (sz_mk _ _ _) rfl hZ8 ?_
  refine s_call ok_Least13 rfl (Least13_ct rv bv ov res bids ord w8 hM8) ?_
  rintro u w9 ⟨vd, rfl, hId, hx9⟩
  have hx19 := hx18.trans hx9
  have hX9 := hX7.ex (hx8.trans hx9)
  have hD9 := hD7.ex (hx8.trans hx9)
  have z5 := hx5.size
  have z6 := hx6.size
  have z7 := hx7.size
  have z8 := hx8.size
  have z9 := hx9.size
  have hOp9 : OwI w4 w9 (sv bp prices.length cp) prices := (hTp.ow hbp).ex (((hx6.trans hx7).trans hx8).trans hx9)
  have hOa9 := hOa.ex ((hx7.trans hx8).trans hx9)
  have hOc9 := hOc.ex hx9
  have hltp : ∀ b, (sv bp prices.length cp).ownBlock = some b → b < w5.heap.size := fun b hb => hTp.wd.lt b hb
  have hlta := hOa.1.lt
  have hltc := hOc.1.lt
  have hIa9 := hIa.ex ((hx7.trans hx8).trans hx9)
  have hIb9 := hIb.ex (hx8.trans hx9)
  have hIc9 := hIc.ex hx9
  have hTp9 := hTp.ex (((hx6.trans hx7).trans hx8).trans hx9)
  have hZ9 := hZ1.ex hx19
  have hM9 := hM1.ex hx19
  have hp9 := hp1.ex hx19
  repeat (first | (refine isO ?_; first | refine s_move ?_ | refine s_assign ?_ | refine s_extract rfl rfl ?_) | (refine isC ?_; refine c_sr ?_) | (refine l_th ?_))
  refine s_alloc (cs := bkc 0 nilV nilV) htb.1 htb.2 rfl ?_
  intro bk k0 hbk hAk hxk hsk
  have hQ0 : BkQ w1.heap.size w9 k0 bk 0 w1.heap.size := BkQ.init hxk (by omega) hAk
  have hXk := hX9.ex hxk
  repeat (first | (refine isC ?_; refine c_sr ?_) | (refine l_th ?_))
  refine s_ldV Tryz.underlying54 rfl (sz_mk _ _ _) rfl hXk ?_
  refine s_call ok_bMarket rfl (bqMarket_ct w1 w9 k0 bk wa.heap.size wb.heap.size b1 c1 b2 c2 rb rc b3 c3 w4.heap.size res bids ord wa wb hQ0 hD9 rfl rfl hab hla (by omega) (by omega) hzr hzb hzl hzo) ?_
  rintro u k1 ⟨rfl, hQ1⟩
  repeat (first | (refine isO ?_; refine s_move ?_) | (refine isC ?_; refine c_sr ?_) | (refine l_th ?_))
  refine s_call ok_bInts rfl (bqInts_ct w1.heap.size w4 w9 k1 bk _ w4.heap.size w5.heap.size (sv bp prices.length cp) prices hQ1 hOp9 (Nat.le_refl _) (by omega) z5 hltp (by omega) (by omega)) ?_
  rintro u k2 ⟨rfl, hQ2⟩
  repeat (first | (refine isO ?_; refine s_move ?_) | (refine isC ?_; refine c_sr ?_) | (refine l_th ?_))
  refine s_call ok_bInts rfl (bqInts_ct w1.heap.size w5 w9 k2 bk _ w5.heap.size w6.heap.size va _ hQ2 hOa9 (Nat.le_refl _) (by omega) z6 hlta (by omega) (by omega)) ?_
  rintro u k3 ⟨rfl, hQ3⟩
  repeat (first | (refine isO ?_; refine s_move ?_) | (refine isC ?_; refine c_sr ?_) | (refine l_th ?_))
  refine s_call ok_bInts rfl (bqInts_ct w1.heap.size w7 w9 k3 bk _ w6.heap.size w8.heap.size vc _ hQ3 hOc9 z7 (by omega) (by omega) hltc (by omega) (by omega)) ?_
  rintro u k4 ⟨rfl, hQ4⟩
  have hxB := hQ4.exB
  repeat (first | (refine isO ?_; refine s_move ?_) | (refine isC ?_; refine c_sr ?_) | (refine l_th ?_))
  refine s_eqlb Tryz.underlying4 rfl rfl ?_
  refine s_re (v' := .bool true) (vbool (by simp)) ?_
  repeat ((refine isO ?_; first | refine s_move ?_ | (refine isG ?_; refine g_yes rfl rfl ?_) | (refine isBin ?_; refine s_eqlT rfl rfl (by omega) ?_) | (refine isPick ?_; refine s_pickt rfl rfl ?_)))
  refine s_call ok_SameInts rfl (SameInts_ct va vb _ _ k4 (hIa9.ex hxB) (hIb9.ex hxB)) ?_
  rintro u k5 ⟨rfl, hk5⟩
  refine s_re (v' := .bool true) (vbool (by simp)) ?_
  have hxB5 := hxB.trans hk5
  repeat ((refine isO ?_; first | refine s_move ?_ | (refine isG ?_; refine g_yes rfl rfl ?_) | (refine isPick ?_; refine s_pickt rfl rfl ?_)))
  refine s_call ok_SameInts rfl (SameInts_ct vc vd _ _ k5 (hIc9.ex hxB5) (hId.ex hxB5)) ?_
  rintro u k6 ⟨rfl, hk6⟩
  refine s_re (v' := .bool true) (vbool (by simp)) ?_
  have hxB6 := hxB5.trans hk6
  have hX6' := hX9.ex hxB6
  have hZ6' := hZ9.ex hxB6
  repeat ((refine isO ?_; first | refine s_move ?_ | (refine isG ?_; refine g_yes rfl rfl ?_) | (refine isPick ?_; refine s_pickt rfl rfl ?_)))
  refine s_ldV Tryz.underlying54 rfl (sz_mk _ _ _) rfl hX6' ?_
  refine g_yes rfl rfl ?_
  refine s_ldV Tryz.underlying54 rfl (sz_mk _ _ _) rfl hZ6' ?_
  refine g_yes rfl rfl ?_
  refine s_call ok_LeftMarket rfl (LeftMarket_ct w1 _ _ b1 c1 b2 c2 rb rc b3 c3 rv bv ov res bids ord k6 (hD9.ex hxB6) (hM9.ex hxB6)) ?_
  rintro u k7 ⟨rfl, hk7⟩
  have hxB7 := hxB6.trans hk7
  repeat ((refine isO ?_; first | refine s_move ?_ | (refine isG ?_; refine g_yes rfl rfl ?_) | (refine isPick ?_; refine s_pickt rfl rfl ?_)))
  refine s_call ok_LeftInts rfl (LeftInts_ct bp cp prices pv k7 (hTp9.ex hxB7) (hp9.ex hxB7)) ?_
  rintro u k8 ⟨rfl, hk8⟩
  repeat ((refine isO ?_; first | refine s_move ?_ | (refine isG ?_; refine g_yes rfl rfl ?_) | (refine isPick ?_; refine s_pickt rfl rfl ?_)))
  refine s_call ok_Apart rfl (bqApart_ct w1.heap.size w0 w9 k8 bk _ w8.heap.size (((((hQ4.exd hk5).exd hk6).exd hk7).exd hk8)) (hx1.trans hx19) z1 z9 (by omega)) ?_
  rintro u k9 ⟨rfl, hk9⟩
  repeat ((refine isO ?_; first | refine s_move ?_ | (refine isG ?_; refine g_yes rfl rfl ?_) | (refine isPick ?_; refine s_pickt rfl rfl ?_)))
  refine s_call ok_lives rfl (lives_ct k9) ?_
  rintro u k10 ⟨rfl, hk10⟩
  repeat (first | (refine isO ?_; first | refine s_assign ?_ | (refine isPick ?_; refine s_pickt rfl rfl ?_)) | (refine isC ?_; refine c_ret ?_) | (refine l_th ?_))
  exact ret1 rfl rfl ⟨rfl, hx0.trans (hk9.trans hk10)⟩
end Go.Proofs.YtifbgpkjbciblaaGreatDoor.Sal
end
