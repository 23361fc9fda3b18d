/- How the arguments of the laws of the graphs read. -/
import Derived.Test.YtkhnohnkcdcajaaDoorCore13
import Derived.Test.YtkhnohnkcdcajaaDoorOps
import Derived.Test.YtkhnohnkcdcajaaDoorCore8
set_option maxRecDepth 100000
namespace Go.Proofs.YtkhnohnkcdcajaaDoor.Sal
open Go.RowKit Go.Deep Go.ChangeShapes Go.WideShapes Go.ChangeAt Go.Joins
set_option linter.all false
theorem own : ownKnob Tryd.prog.godebug = none := by kernel_rfl
theorem laidOut : laidOutB Tryd.prog = true := by kernel_rfl
section
variable {H : Type} {enc : TypeId × Value → H} {w : World} {base : Nat} {spare : Nat → Bool} {held : Bool} {r : Reach} {b0 : Nat} {v : Value} {d : DataW H} {p : List MemPlace}
theorem open_graph (hv : Value.okWide Tryd.prog w r b0 24 v) (h : DataW.Trod enc Tryd.prog w base spare held 24 v d p) (hw : ∀ n ∈ d.weights Tryd.prog 24, n ≤ reachBytes) :
    ∃ (u : Value) (g : List (List Int)) (n : Int), v = .agg #[u, .int .i64 n] ∧ Rows w u g ∧ In64 n ∧ ∀ l ∈ g, ∀ x ∈ l, In64 x := by
  obtain ⟨v0, v1, y0, y1, m, rfl, rfl, rfl, h0, h1⟩ := open_agg2 Tryd.underlying24 (by kernel_rfl) (by kernel_rfl) hv h
  have hw0 : ∀ n ∈ y0.1.weights Tryd.prog 22, n ≤ reachBytes := fun n hn => hw n (by
    simp only [DataW.weights, Tryd.underlying24, List.map, DataW.weightsEach, List.mem_append]
    exact .inl hn)
  obtain ⟨g, hg, hgi⟩ := read_rows Tryd.underlying22 Tryd.underlying25 Tryd.underlying3 (by kernel_rfl) (by kernel_rfl) (of_decide_eq_true (by kernel_rfl)) (of_decide_eq_true (by kernel_rfl)) h0 hw0
  obtain ⟨k, hk, _, hwf⟩ := DataW.trod_int Tryd.underlying3 h1
  simp only [List.cons.injEq, and_true] at hk
  subst hk
  exact ⟨v0, g, k, rfl, hg, in64_of_wf hwf, hgi⟩
theorem cells_slice (a : Option Addr) (n c : Nat) : (Value.slice a n c).cells.toList = [.slice a n c] := rfl
theorem open_intl (hv : Value.okWide Tryd.prog w r b0 25 v) (h : DataW.Trod enc Tryd.prog w base spare held 25 v d p) (hw : ∀ n ∈ d.weights Tryd.prog 25, n ≤ reachBytes) :
    ∃ l : List Int, Ints w v l ∧ ∀ x ∈ l, In64 x := by
  obtain ⟨a, n, c, rfl⟩ := okWide_slice Tryd.underlying25 hv
  obtain ⟨fuel, hf⟩ := h
  rw [cells_slice] at hf
  exact read_ints Tryd.underlying25 Tryd.underlying3 (by kernel_rfl) (of_decide_eq_true (by kernel_rfl)) hf hw
end
end Go.Proofs.YtkhnohnkcdcajaaDoor.Sal
