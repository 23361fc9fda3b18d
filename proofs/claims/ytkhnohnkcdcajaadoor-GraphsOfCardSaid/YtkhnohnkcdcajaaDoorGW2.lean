/- Graphs: the program's answers and the document's are one, whatever comes in. -/
import Derived.Test.YtkhnohnkcdcajaaDoorGW
import Derived.Test.YtkhnohnkcdcajaaDoorR6b
import Derived.Test.YtkhnohnkcdcajaaDoorBO1
set_option maxRecDepth 100000
namespace Go.Proofs.YtkhnohnkcdcajaaDoor.Sal
open Go.RowKit
set_option linter.all false
theorem chk_may {g : List (List Int)} {n : Int} (h : chkG g n = true) : n = (n.toNat : Int) ∧ n.toNat ≤ 8 ∧ g.length ≤ 8 ∧ g = gL (mayR g) g.length n.toNat := by
  obtain ⟨nn, h1, h2, h3, h4⟩ := chk_form h
  subst h1
  exact ⟨rfl, h2, h3, h4⟩
def turnS (g : List (List Int)) (n : Int) : List (List Int) × Int := if chkG g n = true then (gL (fun k i => mayR g i k) n.toNat g.length, 0) else ([], 1)
def nearS (g : List (List Int)) (n : Int) (sl : List Int) : List Int × Int := if (chkG g n && risB (-1) sl (g.length : Int)) = true then (rowL n.toNat (nearP (mayR g) g.length sl), 0) else ([], 1)
def FitS (g : List (List Int)) (n : Int) (has : List Int) : Prop := chkG g n = true ∧ has.length = g.length ∧ FitR (mayR g) g.length n.toNat has
attribute [local irreducible] Go.Code.wpIn Go.wpListIn Ct Ints Rows Sl At Rw WJ
attribute [local irreducible] Wd
theorem Turned_all (gv : Value) (g : List (List Int)) (n : Int) (w : World) (hg : Rows w gv g) :
    Ct Tryd.prog 7 #[gv, .int .i64 n] w fun u w' => ∃ v us, u = .tuple #[v, .int .i64 (turnS g n).2] ∧ OwL w w' v us (turnS g n).1 ∧ Rows w' v (turnS g n).1 ∧ (turnS g n).1.length ≤ 8 ∧ (∀ j, ((turnS g n).1.getD j []).length ≤ 8) ∧ Ex w w' := by
  unfold turnS
  by_cases hc : chkG g n = true
  · obtain ⟨h1, h2, h3, h4⟩ := chk_may hc
    rw [if_pos hc]
    have hg' : Rows w gv (gL (mayR g) g.length n.toNat) := by rw [← h4]; exact hg
    have hct := Turned_okW (R := mayR g) (m := g.length) (n := n.toNat) h3 h2 gv w hg'
    rw [← h1] at hct
    have hrl : ∀ j, (rowL g.length (fun i => mayR g i j)).length ≤ 8 := fun j => by rw [rowL_len]; have := rowN_le g.length (fun i => mayR g i j); omega
    refine hct.mono fun u w' ⟨bo, us, hu, hbo, hR, hA, hj, hd, hx⟩ => ?_
    have key : ∀ j x, ((List.range n.toNat).map us)[j]? = some x → j < n.toNat ∧ x = us j := fun j x hx' => by
      have hj := (List.getElem?_eq_some_iff.1 hx').1
      simp only [List.length_map, List.length_range] at hj
      simp only [List.getElem?_map, List.getElem?_range hj, Option.map_some, Option.some.injEq] at hx'
      exact ⟨hj, hx'.symm⟩
    refine ⟨sv bo n.toNat n.toNat, (List.range n.toNat).map us, hu, ⟨by rw [gL_len]; simp, ?_, fun j x hx' => ?_, fun j x b hx' e => ?_, fun i j x y b hx' hy hij e => ?_, fun b e => by cases e; exact hbo⟩, hR, by rw [gL_len]; exact h2, fun j => ?_, hx⟩
    · rw [gL_len]
      exact wd_lit (by simp) hA (by omega)
    · obtain ⟨h5, rfl⟩ := key j x hx'
      rw [gL_row h5]
      refine ⟨(hj j h5).2, ?_⟩
      obtain ⟨a, c, h6⟩ := (hj j h5).2.slen
      exact ⟨a, _, c, h6⟩
    · obtain ⟨h5, rfl⟩ := key j x hx'
      have := (hj j h5).1 b e
      exact ⟨this.1, fun e2 => this.2 (by cases e2; rfl)⟩
    · obtain ⟨h5, rfl⟩ := key i x hx'
      obtain ⟨h6, rfl⟩ := key j y hy
      exact hd i j h5 h6 hij b e
    · by_cases h5 : j < n.toNat
      · rw [gL_row h5]; exact hrl j
      · have : (gL (fun k i => mayR g i k) n.toNat g.length).getD j [] = [] := by
          rw [List.getD_eq_getElem?_getD, List.getElem?_eq_none (by rw [gL_len]; omega)]; rfl
        rw [this]; simp
  · rw [if_neg hc]
    have hc' : chkG g n = false := by simpa using hc
    exact (Turned_bad gv g n w hg hc').mono fun u w' ⟨hu, hx⟩ => ⟨_, [], hu, OwL.nil _ _, rows_nil w', by simp, fun j => by simp, hx⟩
theorem Turned6_all (gv : Value) (g : List (List Int)) (n : Int) (w : World) (hg : Rows w gv g) :
    Ct Tryd.prog 8 #[gv, .int .i64 n] w fun u w' => ∃ v, u = .tuple #[v, .int .i64 (turnS g n).2] ∧ Rows w' v (turnS g n).1 ∧ Ex w w' := by
  unfold turnS
  by_cases hc : chkG g n = true
  · obtain ⟨h1, h2, h3, h4⟩ := chk_may hc
    rw [if_pos hc]
    have hg' : Rows w gv (gL (mayR g) g.length n.toNat) := by rw [← h4]; exact hg
    have hct := Turned6_ok (R := mayR g) (m := g.length) (n := n.toNat) h3 h2 gv w hg'
    rw [← h1] at hct
    exact hct
  · rw [if_neg hc]
    have hc' : chkG g n = false := by simpa using hc
    exact (Turned6_bad gv g n w hg hc').mono fun u w' ⟨hu, hx⟩ => ⟨_, hu, rows_nil w', hx⟩
theorem Near_all (gv : Value) (g : List (List Int)) (n : Int) (sv' : Value) (sl : List Int) (w : World) (hg : Rows w gv g) (hs : Ints w sv' sl) :
    Ct Tryd.prog 9 #[gv, .int .i64 n, sv'] w fun u w' => ∃ v, u = .tuple #[v, .int .i64 (nearS g n sl).2] ∧ OwI w w' v (nearS g n sl).1 ∧ Ints w' v (nearS g n sl).1 ∧ (nearS g n sl).1.length ≤ 8 ∧ Ex w w' := by
  unfold nearS
  by_cases hc : (chkG g n && risB (-1) sl (g.length : Int)) = true
  · rw [if_pos hc]
    rw [Bool.and_eq_true] at hc
    obtain ⟨h1, h2, h3, h4⟩ := chk_may hc.1
    have hg' : Rows w gv (gL (mayR g) g.length n.toNat) := by rw [← h4]; exact hg
    have hct := Near_okW (R := mayR g) (m := g.length) (n := n.toNat) h3 h2 gv sv' sl w hg' hs hc.2
    rw [← h1] at hct
    refine hct.mono fun u w' ⟨v, a, hu, hv, hb, hI, hW, hx⟩ => ⟨v, hu, ⟨hW, hb⟩, hI, ?_, hx⟩
    rw [rowL_len]; have := rowN_le n.toNat (nearP (mayR g) g.length sl); omega
  · rw [if_neg hc]
    have hc' : (chkG g n && risB (-1) sl (g.length : Int)) = false := by simpa using hc
    exact (Near_bad gv g n sv' sl w hg hs hc').mono fun u w' ⟨hu, hx⟩ => ⟨_, hu, OwI.nil _ _, Ints.nil _, by simp, hx⟩
theorem Near6_all (gv : Value) (g : List (List Int)) (n : Int) (sv' : Value) (sl : List Int) (w : World) (hg : Rows w gv g) (hs : Ints w sv' sl) :
    Ct Tryd.prog 10 #[gv, .int .i64 n, sv'] w fun u w' => ∃ v, u = .tuple #[v, .int .i64 (nearS g n sl).2] ∧ Ints w' v (nearS g n sl).1 ∧ Ex w w' := by
  unfold nearS
  by_cases hc : (chkG g n && risB (-1) sl (g.length : Int)) = true
  · rw [if_pos hc]
    rw [Bool.and_eq_true] at hc
    obtain ⟨h1, h2, h3, h4⟩ := chk_may hc.1
    have hg' : Rows w gv (gL (mayR g) g.length n.toNat) := by rw [← h4]; exact hg
    have hct := Near6_ok (R := mayR g) (m := g.length) (n := n.toNat) h3 h2 gv sv' sl w hg' hs hc.2
    rw [← h1] at hct
    exact hct
  · rw [if_neg hc]
    have hc' : (chkG g n && risB (-1) sl (g.length : Int)) = false := by simpa using hc
    exact (Near6_bad gv g n sv' sl w hg hs hc').mono fun u w' ⟨hu, hx⟩ => ⟨_, hu, Ints.nil _, hx⟩
theorem Fits_all (gv : Value) (g : List (List Int)) (n : Int) (hv : Value) (has : List Int) (w : World) (hg : Rows w gv g) (hh : Ints w hv has) :
    Ct Tryd.prog 15 #[gv, .int .i64 n, hv] w fun u w' => (∃ b : Bool, u = .bool b ∧ (b = true ↔ FitS g n has)) ∧ Ex w w' := by
  by_cases hc : chkG g n = true ∧ has.length = g.length
  · obtain ⟨h1, h2, h3, h4⟩ := chk_may hc.1
    have hg' : Rows w gv (gL (mayR g) g.length n.toNat) := by rw [← h4]; exact hg
    have hct := Fits_ok (R := mayR g) (m := g.length) (n := n.toNat) h3 h2 gv hv has w hg' hh hc.2
    rw [← h1] at hct
    exact hct.mono fun u w' ⟨⟨b, hu, hb⟩, hx⟩ => ⟨⟨b, hu, hb.trans ⟨fun h => ⟨hc.1, hc.2, h⟩, fun h => h.2.2⟩⟩, hx⟩
  · have hb : chkG g n = false ∨ has.length ≠ g.length := by
      by_cases h1 : chkG g n = true
      · exact .inr fun h => hc ⟨h1, h⟩
      · exact .inl (by simpa using h1)
    exact (Fits_bad gv g n hv has w hg hh hb).mono fun u w' ⟨hu, hx⟩ => ⟨⟨false, hu, ⟨fun h => (by cases h), fun h => absurd ⟨h.1, h.2.1⟩ hc⟩⟩, hx⟩
theorem Fits6_all (gv : Value) (g : List (List Int)) (n : Int) (hv : Value) (has : List Int) (w : World) (hg : Rows w gv g) (hh : Ints w hv has) :
    Ct Tryd.prog 16 #[gv, .int .i64 n, hv] w fun u w' => (∃ b : Bool, u = .bool b ∧ (b = true ↔ FitS g n has)) ∧ Ex w w' := by
  by_cases hc : chkG g n = true ∧ has.length = g.length
  · obtain ⟨h1, h2, h3, h4⟩ := chk_may hc.1
    have hg' : Rows w gv (gL (mayR g) g.length n.toNat) := by rw [← h4]; exact hg
    have hct := Fits6_ok (R := mayR g) (m := g.length) (n := n.toNat) h3 h2 gv hv has w hg' hh hc.2
    rw [← h1] at hct
    exact hct.mono fun u w' ⟨⟨b, hu, hb⟩, hx⟩ => ⟨⟨b, hu, hb.trans ⟨fun h => ⟨hc.1, hc.2, h⟩, fun h => h.2.2⟩⟩, hx⟩
  · have hb : chkG g n = false ∨ has.length ≠ g.length := by
      by_cases h1 : chkG g n = true
      · exact .inr fun h => hc ⟨h1, h⟩
      · exact .inl (by simpa using h1)
    exact (Fits6_bad gv g n hv has w hg hh hb).mono fun u w' ⟨hu, hx⟩ => ⟨⟨false, hu, ⟨fun h => (by cases h), fun h => absurd ⟨h.1, h.2.1⟩ hc⟩⟩, hx⟩
end Go.Proofs.YtkhnohnkcdcajaaDoor.Sal
