/- Core12: a region whose order Go leaves open, where at one point two operations that make memory are ready: both orders. -/
import Derived.Test.YtkhnohnkcdcajaaCore10
namespace Go.Proofs.Ytkhnohnkcdcajaa.Sal
set_option linter.all false
open Go.RowKit
section fork
variable {r : Option Nat} {P : Program} {ops : Array Oper} {J : World → Prop} {Q : Exit → Act → World → Prop} {z : Nat}
def chkF (ops : Array Oper) (z i : Nat) (π2 : List (Nat × Bool)) (j : Nat) (π3 : List (Nat × Bool)) : List (Nat × Bool) → Array Bool → Bool
  | [], listed => (Region.ready .any ops listed == [i, j]) && !(i == z) && !(j == z) && chk ops z π2 (listed.setIfInBounds i true) && chk ops z π3 (listed.setIfInBounds j true)
  | (x, true) :: π, listed => (Region.ready .any ops listed).contains x && apartOK ops x && !(x == z) && chkF ops z i π2 j π3 π (listed.setIfInBounds x true)
  | (_, false) :: _, _ => false
def ForkEnd (r : Option Nat) (P : Program) (ops : Array Oper) (J : World → Prop) (z : Nat) (Q : Exit → Act → World → Prop) (i : Nat) (π2 : List (Nat × Bool)) (j : Nat) (π3 : List (Nat × Bool)) : Exit → Act → World → Prop :=
  fun _ a w => WJ r P ops J z Q ((i, false) :: π2) a w ∧ WJ r P ops J z Q ((j, false) :: π3) a w
theorem raj_of_wjF {k i j : Nat} {π2 π3 : List (Nat × Bool)} (hpl : ∀ (j : Nat) (o : Oper), ops[j]? = some o → plainOp o = true) (hs : sinkOK ops z k = true) :
    ∀ (π : List (Nat × Bool)) (fuel : Nat) (listed : Array Bool) (a : Act) (w : World), chkF ops z i π2 j π3 π listed = true → Closed ops listed → J w → π.length + 1 + π2.length ≤ fuel → π.length + 1 + π3.length ≤ fuel →
      WJ r P ops J z (ForkEnd r P ops J z Q i π2 j π3) π a w → RAJ r P ops J z Q fuel listed a w := by
  intro π
  induction π with
  | nil =>
    intro fuel listed a w hk hc hJ hf1 hf2 h
    simp only [chkF, Bool.and_eq_true] at hk
    obtain ⟨⟨⟨⟨h1, h2⟩, h3⟩, h4⟩, h5⟩ := hk
    have he : Region.ready .any ops listed = [i, j] := by simpa using h1
    have h2' : i ≠ z := by simpa using h2
    have h3' : j ≠ z := by simpa using h3
    cases fuel with
    | zero => simp at hf1
    | succ f =>
      simp at hf1 hf2
      refine ⟨fun h => (by rw [he] at h; simp at h), fun x hx => ?_⟩
      have hrx := hx
      rw [he] at hx
      simp at hx
      have hW : WJ r P ops J z Q ((i, false) :: π2) a w ∧ WJ r P ops J z Q ((j, false) :: π3) a w := h
      rcases hx with rfl | rfl
      · refine wpOpIn_mono ?_ hW.1
        rintro a' w' ⟨hJ', hW'⟩
        have hJw : J w' := hJ'.resolve_left h2'
        exact ⟨.inr hJw, raj_of_wj hpl hs π2 f _ a' w' h4 (closed_set hc hrx) (.inr hJw) (by omega) hW'⟩
      · refine wpOpIn_mono ?_ hW.2
        rintro a' w' ⟨hJ', hW'⟩
        have hJw : J w' := hJ'.resolve_left h3'
        exact ⟨.inr hJw, raj_of_wj hpl hs π3 f _ a' w' h5 (closed_set hc hrx) (.inr hJw) (by omega) hW'⟩
  | cons p π ih =>
    obtain ⟨x, b⟩ := p
    intro fuel listed a w hk hc hJ hf1 hf2 h
    cases b with
    | false => simp [chkF] at hk
    | true =>
      cases fuel with
      | zero => simp at hf1
      | succ f =>
        simp only [List.length_cons] at hf1 hf2
        simp only [chkF, Bool.and_eq_true] at hk
        obtain ⟨⟨⟨h1, h2⟩, h3⟩, h4⟩ := hk
        have hr : x ∈ Region.ready .any ops listed := by simpa using h1
        obtain ⟨o, v, ho, hy, hW⟩ := h
        exact first_mover hpl hs ho h2 (by simpa using h3) f listed a w hc hr hy hJ (ih f _ _ w h4 (closed_set hc hr) hJ (by omega) (by omega) hW)
def regionOKF (ops : Array Oper) (z k : Nat) (π : List (Nat × Bool)) (i : Nat) (π2 : List (Nat × Bool)) (j : Nat) (π3 : List (Nat × Bool)) : Bool :=
  ops.all plainOp && sinkOK ops z k && chkF ops z i π2 j π3 π (Array.replicate ops.size false) && Nat.ble (π.length + 1 + π2.length) ops.size && Nat.ble (π.length + 1 + π3.length) ops.size
end fork
theorem c_drawF {r : Option Nat} {P : Program} {Q : Exit → Act → World → Prop} {N : Nat} {σ : Nat → Value} {ds : List Deferred} {w w0 : World} {id : Nat} {l : List Oper} (hw : Ex w0 w) (z k : Nat) (π : List (Nat × Bool)) (i : Nat) (π2 : List (Nat × Bool)) (j : Nat) (π3 : List (Nat × Bool)) (hm : P.follows .mixedOrders = true) (hok : regionOKF l.toArray z k π i π2 j π3 = true)
    (h : WJ r P l.toArray (Ex w0) z (ForkEnd r P l.toArray (Ex w0) z Q i π2 j π3) π (mk N σ ds) w.drew) : CW r P (.region id l.toArray true) Q (mk N σ ds) w := by
  simp only [regionOKF, Bool.and_eq_true] at hok
  obtain ⟨⟨⟨⟨h1, h2⟩, h3⟩, h4⟩, h5⟩ := hok
  refine wpIn_region_any hm (wpAny_of_RAJ _ _ _ _ (raj_of_wjF (J := Ex w0) (fun j o ho => ?_) h2 π _ _ _ _ h3 ?_ (hw.trans (Ex.drew w)) (Nat.le_of_ble_eq_true h4) (Nat.le_of_ble_eq_true h5) h))
  · exact (Array.all_eq_true_iff_forall_mem.1 h1) o (Array.mem_of_getElem? ho)
  · intro k hk
    exfalso
    by_cases hlt : k < l.toArray.size
    · simp at hlt; simp [hlt] at hk
    · simp at hlt; simp [Nat.not_lt.2 hlt] at hk
theorem d_fork {r : Option Nat} {P : Program} {ops : Array Oper} {J : World → Prop} {Q : Exit → Act → World → Prop} {z : Nat} {N : Nat} {σ : Nat → Value} {ds : List Deferred} {w : World} {i j : Nat} {π2 π3 : List (Nat × Bool)}
    (h1 : WJ r P ops J z Q ((i, false) :: π2) (mk N σ ds) w) (h2 : WJ r P ops J z Q ((j, false) :: π3) (mk N σ ds) w) : WJ r P ops J z (ForkEnd r P ops J z Q i π2 j π3) [] (mk N σ ds) w := ⟨h1, h2⟩
end Go.Proofs.Ytkhnohnkcdcajaa.Sal
