/- What the laws of the weights that put gains together have in common. -/
import Derived.Test.YtknkdnohcepmdaaM5
import Derived.Test.YtknkdnohcepmdaaCore12
namespace Go.Proofs.Ytknkdnohcepmdaa.Sal
open Go.RowKit
attribute [local irreducible] Go.Code.wpIn Go.wpListIn Ct Ints Rows Sl At Rw WJ
set_option linter.all false
theorem own_tabn {w : World} {b : Nat} {E : TypeId} {f : Nat → Int} {l : List Int} {n : Nat} (hl : (List.range n).map f = l) (hn : n = l.length) (h : At w b E (tabn n f)) (hm : l.length ≤ 1000) : OwnI w E b n l := by
  refine ⟨[], ?_, by omega, by omega⟩
  rw [List.append_nil, ← hl, ← tabn_ints]; exact h
theorem Proved_own (gv : Value) (g : List (List Int)) (n : Nat) (w : World) (hg : Rows w gv g) (hc : checkG g (n : Int) = true) :
    Ct Try.prog 14 #[gv, .int .i64 (n : Int)] w fun u w' => ∃ b1 b2, u = .tuple #[sv b2 g.length g.length, sv b1 n n, .int .i64 0] ∧ w.heap.size ≤ b1 ∧ b1 < b2 ∧ OwnI w' 3 b1 n (pL g n) ∧ OwnI w' 3 b2 g.length (uL g n) ∧ Ex w w' := by
  obtain ⟨m, hm, h1, h8, hG⟩ := check_good hc
  have hfew := hG.few
  refine (Proved_ok gv g n w hg hc).mono ?_
  rintro u w' ⟨b1, b2, rfl, h1, h2, hA, hB, hx⟩
  exact ⟨b1, b2, rfl, h1, h2, own_tabn (l := pL g n) rfl (pL_len g n).symm hA (by rw [pL_len]; omega), own_tabn (l := uL g n) rfl (uL_len g n).symm hB (by rw [uL_len]; omega), hx⟩
theorem take_succ_map {α β : Type} (f : α → β) (l : List α) (i : Nat) (d : α) (h : i < l.length) : (l.take (i + 1)).map f = (l.take i).map f ++ [f (l.getD i d)] := by
  rw [List.take_succ_eq_append_getElem h, List.map_append]; simp [h]
theorem getD_mapG {α β : Type} (f : α → β) (l : List α) (i : Nat) (d : α) (e : β) (h : i < l.length) : (l.map f).getD i e = f (l.getD i d) := by simp [h]
theorem VV_bnd {g : List (List Int)} {n : Nat} (hG : Good g n) : 0 ≤ VV g n ∧ VV g n ≤ 1000000 * n := by
  have := bestF_bnd hG (List.range n)
  rwa [List.length_range] at this
end Go.Proofs.Ytknkdnohcepmdaa.Sal
