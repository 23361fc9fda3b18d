/- How the arguments of the laws of the weights read. -/
import Derived.Test.YtknkdnohcepmdaaW8
namespace Go.Proofs.Ytknkdnohcepmdaa.Sal
open Go.RowKit Go.Deep Go.ChangeShapes Go.WideShapes Go.ChangeAt Go.Joins
set_option linter.all false
theorem own : ownKnob Try.prog.godebug = none := by kernel_rfl
theorem laidOut : laidOutB Try.prog = true := by kernel_rfl
section
variable {H : Type} {enc : TypeId × Value → H} {w : World} {base : Nat} {spare : Nat → Bool} {held : Bool} {r : Reach} {b0 : Nat} {v : Value} {d : DataW H} {p : List MemPlace}
theorem open_gains (hv : Value.okWide Try.prog w r b0 24 v) (h : DataW.Trod enc Try.prog w base spare held 24 v d p) (hw : ∀ n ∈ d.weights Try.prog 24, n ≤ reachBytes) :
    ∃ (u : Value) (g : List (List Int)) (n : Int), v = .agg #[u, .int .i64 n] ∧ Rows w u g ∧ In64 n ∧ ∀ l ∈ g, ∀ x ∈ l, In64 x := by
  obtain ⟨v0, v1, y0, y1, m, rfl, rfl, rfl, h0, h1⟩ := open_agg2 Try.underlying24 (by kernel_rfl) (by kernel_rfl) hv h
  have hw0 : ∀ n ∈ y0.1.weights Try.prog 22, n ≤ reachBytes := fun n hn => hw n (by
    simp only [DataW.weights, Try.underlying24, List.map, DataW.weightsEach, List.mem_append]
    exact .inl hn)
  obtain ⟨g, hg, hgi⟩ := read_rows Try.underlying22 Try.underlying28 Try.underlying3 (by kernel_rfl) (by kernel_rfl) (of_decide_eq_true (by kernel_rfl)) (of_decide_eq_true (by kernel_rfl)) h0 hw0
  obtain ⟨k, hk, _, hwf⟩ := DataW.trod_int Try.underlying3 h1
  simp only [List.cons.injEq, and_true] at hk
  subst hk
  exact ⟨v0, g, k, rfl, hg, in64_of_wf hwf, hgi⟩
end
end Go.Proofs.Ytknkdnohcepmdaa.Sal
