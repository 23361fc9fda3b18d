/-
  No cell of these rows narrows 'for every input' (looked for: loops, veiled, ifaces, maps, wideKeys, modest, calm, conditions, laid).
  DERIVED. THE GIVEN ROWS OF THIS SEAT. 10 by the template 'for every input the law returns true; each argument reads behind the call as it read before'; 0 by the template 'total and deterministic' (their statements: YtknkdnohcepmdaaTotals.lean).
  GIVEN WITH THE SEED: the statements are not yours to turn. If you find one false, say at which input.
  Laid BY PROGRAM, IN A SANDBOX (cutbox-rows.mjs): the forced cells as the released guide's own fill.sh prints them over the translation fedf865df6a5e2ee… (all of the seat's roots in one cut). By AI agents, Wed Nov 11 2026. No macro, syntax, notation, axiom, sorry.
-/
import Derived.Test.YtknkdnohcepmdaaChecked
import GoSem.Claim
import GoSem.ClaimJoined
import GoSem.ClaimMapViews
import Derived.JoinedTies
import Derived.KernelRfl
namespace Go.Proofs.Ytknkdnohcepmdaa
/- THE CELL 'sum', in the pinned program and in every row, IS THE sha256 OF THE DUMP (.gsa) THAT YtknkdnohcepmdaaProg.lean LOADS. Nothing in Lean hashes anything: it is a label: what it is worth is what the hold of that sum in a sandbox is worth. -/
noncomputable def Try.pinned : Pinned := { name := "ytknkdnohcepmdaa", sum := "fedf865df6a5e2ee2e054360502ee3150a18895fc9f3d31fc42a89a8d981f92c", checked := Try.checked }
namespace Rows
def none {H : Type} : Left H := { results := [], args := [] }

/-- 'salesroomlaw10.WeightsProved': WHATEVER THE INPUT: true; the input reads as it did. -/
def weightsProvedSpec : ChangeSpec := { name := "weightsProved", fn := fun _ => fun
  | [d] => { results := [.lit (.bool true)], args := [d] }
  | _ => none }
def weightsProvedRow : OpenClaim := { program := "ytknkdnohcepmdaa", sum := "fedf865df6a5e2ee2e054360502ee3150a18895fc9f3d31fc42a89a8d981f92c", func := "salesroom/salesroomlaw10.WeightsProved", spec := "weightsProved", unfollowed := true, recurses := true, apart := false }
def WeightsProvedSaid : Prop := weightsProvedRow.holds Try.pinned (OpenSpec.ofChange weightsProvedSpec)

/-- ITS FALSE NEIGHBOUR: 'it returns false'. Refute it at one input. -/
def weightsProvedWrong : ChangeSpec := { name := "weightsProved", fn := fun _ => fun
  | [d] => { results := [.lit (.bool false)], args := [d] }
  | _ => none }
def WeightsProvedWrongFalsely : Prop := weightsProvedRow.holds Try.pinned (OpenSpec.ofChange weightsProvedWrong)

/-- 'salesroomlaw10.WeightsLeast': WHATEVER THE INPUT: true; the input reads as it did. -/
def weightsLeastSpec : ChangeSpec := { name := "weightsLeast", fn := fun _ => fun
  | [d1, d2] => { results := [.lit (.bool true)], args := [d1, d2] }
  | _ => none }
def weightsLeastRow : OpenClaim := { program := "ytknkdnohcepmdaa", sum := "fedf865df6a5e2ee2e054360502ee3150a18895fc9f3d31fc42a89a8d981f92c", func := "salesroom/salesroomlaw10.WeightsLeast", spec := "weightsLeast", unfollowed := true, recurses := true, apart := false }
def WeightsLeastSaid : Prop := weightsLeastRow.holds Try.pinned (OpenSpec.ofChange weightsLeastSpec)

/-- ITS FALSE NEIGHBOUR: 'it returns false'. Refute it at one input. -/
def weightsLeastWrong : ChangeSpec := { name := "weightsLeast", fn := fun _ => fun
  | [d1, d2] => { results := [.lit (.bool false)], args := [d1, d2] }
  | _ => none }
def WeightsLeastWrongFalsely : Prop := weightsLeastRow.holds Try.pinned (OpenSpec.ofChange weightsLeastWrong)

/-- 'salesroomlaw10.WeightsMore': WHATEVER THE INPUT: true; the input reads as it did. -/
def weightsMoreSpec : ChangeSpec := { name := "weightsMore", fn := fun _ => fun
  | [d1, d2, d3] => { results := [.lit (.bool true)], args := [d1, d2, d3] }
  | _ => none }
def weightsMoreRow : OpenClaim := { program := "ytknkdnohcepmdaa", sum := "fedf865df6a5e2ee2e054360502ee3150a18895fc9f3d31fc42a89a8d981f92c", func := "salesroom/salesroomlaw10.WeightsMore", spec := "weightsMore", unfollowed := true, recurses := true, apart := false }
def WeightsMoreSaid : Prop := weightsMoreRow.holds Try.pinned (OpenSpec.ofChange weightsMoreSpec)

/-- ITS FALSE NEIGHBOUR: 'it returns false'. Refute it at one input. -/
def weightsMoreWrong : ChangeSpec := { name := "weightsMore", fn := fun _ => fun
  | [d1, d2, d3] => { results := [.lit (.bool false)], args := [d1, d2, d3] }
  | _ => none }
def WeightsMoreWrongFalsely : Prop := weightsMoreRow.holds Try.pinned (OpenSpec.ofChange weightsMoreWrong)

/-- 'salesroomlaw10.WeightsOrder': WHATEVER THE INPUT: true; the input reads as it did. -/
def weightsOrderSpec : ChangeSpec := { name := "weightsOrder", fn := fun _ => fun
  | [d1, d2, d3] => { results := [.lit (.bool true)], args := [d1, d2, d3] }
  | _ => none }
def weightsOrderRow : OpenClaim := { program := "ytknkdnohcepmdaa", sum := "fedf865df6a5e2ee2e054360502ee3150a18895fc9f3d31fc42a89a8d981f92c", func := "salesroom/salesroomlaw10.WeightsOrder", spec := "weightsOrder", unfollowed := true, recurses := true, apart := false }
def WeightsOrderSaid : Prop := weightsOrderRow.holds Try.pinned (OpenSpec.ofChange weightsOrderSpec)

/-- ITS FALSE NEIGHBOUR: 'it returns false'. Refute it at one input. -/
def weightsOrderWrong : ChangeSpec := { name := "weightsOrder", fn := fun _ => fun
  | [d1, d2, d3] => { results := [.lit (.bool false)], args := [d1, d2, d3] }
  | _ => none }
def WeightsOrderWrongFalsely : Prop := weightsOrderRow.holds Try.pinned (OpenSpec.ofChange weightsOrderWrong)

/-- 'salesroomlaw10.WeightsTimes': WHATEVER THE INPUT: true; the input reads as it did. -/
def weightsTimesSpec : ChangeSpec := { name := "weightsTimes", fn := fun _ => fun
  | [d1, d2] => { results := [.lit (.bool true)], args := [d1, d2] }
  | _ => none }
def weightsTimesRow : OpenClaim := { program := "ytknkdnohcepmdaa", sum := "fedf865df6a5e2ee2e054360502ee3150a18895fc9f3d31fc42a89a8d981f92c", func := "salesroom/salesroomlaw10.WeightsTimes", spec := "weightsTimes", unfollowed := true, recurses := true, apart := false }
def WeightsTimesSaid : Prop := weightsTimesRow.holds Try.pinned (OpenSpec.ofChange weightsTimesSpec)

/-- ITS FALSE NEIGHBOUR: 'it returns false'. Refute it at one input. -/
def weightsTimesWrong : ChangeSpec := { name := "weightsTimes", fn := fun _ => fun
  | [d1, d2] => { results := [.lit (.bool false)], args := [d1, d2] }
  | _ => none }
def WeightsTimesWrongFalsely : Prop := weightsTimesRow.holds Try.pinned (OpenSpec.ofChange weightsTimesWrong)

/-- 'salesroomlaw10.WeightsLoss': WHATEVER THE INPUT: true; the input reads as it did. -/
def weightsLossSpec : ChangeSpec := { name := "weightsLoss", fn := fun _ => fun
  | [d] => { results := [.lit (.bool true)], args := [d] }
  | _ => none }
def weightsLossRow : OpenClaim := { program := "ytknkdnohcepmdaa", sum := "fedf865df6a5e2ee2e054360502ee3150a18895fc9f3d31fc42a89a8d981f92c", func := "salesroom/salesroomlaw10.WeightsLoss", spec := "weightsLoss", unfollowed := true, recurses := true, apart := false }
def WeightsLossSaid : Prop := weightsLossRow.holds Try.pinned (OpenSpec.ofChange weightsLossSpec)

/-- ITS FALSE NEIGHBOUR: 'it returns false'. Refute it at one input. -/
def weightsLossWrong : ChangeSpec := { name := "weightsLoss", fn := fun _ => fun
  | [d] => { results := [.lit (.bool false)], args := [d] }
  | _ => none }
def WeightsLossWrongFalsely : Prop := weightsLossRow.holds Try.pinned (OpenSpec.ofChange weightsLossWrong)

/-- 'salesroomlaw10.WeightsUpper': WHATEVER THE INPUT: true; the input reads as it did. -/
def weightsUpperSpec : ChangeSpec := { name := "weightsUpper", fn := fun _ => fun
  | [d] => { results := [.lit (.bool true)], args := [d] }
  | _ => none }
def weightsUpperRow : OpenClaim := { program := "ytknkdnohcepmdaa", sum := "fedf865df6a5e2ee2e054360502ee3150a18895fc9f3d31fc42a89a8d981f92c", func := "salesroom/salesroomlaw10.WeightsUpper", spec := "weightsUpper", unfollowed := true, recurses := true, apart := false }
def WeightsUpperSaid : Prop := weightsUpperRow.holds Try.pinned (OpenSpec.ofChange weightsUpperSpec)

/-- ITS FALSE NEIGHBOUR: 'it returns false'. Refute it at one input. -/
def weightsUpperWrong : ChangeSpec := { name := "weightsUpper", fn := fun _ => fun
  | [d] => { results := [.lit (.bool false)], args := [d] }
  | _ => none }
def WeightsUpperWrongFalsely : Prop := weightsUpperRow.holds Try.pinned (OpenSpec.ofChange weightsUpperWrong)

/-- 'salesroomlaw10.WeightsFewer': WHATEVER THE INPUT: true; the input reads as it did. -/
def weightsFewerSpec : ChangeSpec := { name := "weightsFewer", fn := fun _ => fun
  | [d1, d2, d3] => { results := [.lit (.bool true)], args := [d1, d2, d3] }
  | _ => none }
def weightsFewerRow : OpenClaim := { program := "ytknkdnohcepmdaa", sum := "fedf865df6a5e2ee2e054360502ee3150a18895fc9f3d31fc42a89a8d981f92c", func := "salesroom/salesroomlaw10.WeightsFewer", spec := "weightsFewer", unfollowed := true, recurses := true, apart := false }
def WeightsFewerSaid : Prop := weightsFewerRow.holds Try.pinned (OpenSpec.ofChange weightsFewerSpec)

/-- ITS FALSE NEIGHBOUR: 'it returns false'. Refute it at one input. -/
def weightsFewerWrong : ChangeSpec := { name := "weightsFewer", fn := fun _ => fun
  | [d1, d2, d3] => { results := [.lit (.bool false)], args := [d1, d2, d3] }
  | _ => none }
def WeightsFewerWrongFalsely : Prop := weightsFewerRow.holds Try.pinned (OpenSpec.ofChange weightsFewerWrong)

/-- 'salesroomlaw10.WeightsIdle': WHATEVER THE INPUT: true; the input reads as it did. -/
def weightsIdleSpec : ChangeSpec := { name := "weightsIdle", fn := fun _ => fun
  | [d] => { results := [.lit (.bool true)], args := [d] }
  | _ => none }
def weightsIdleRow : OpenClaim := { program := "ytknkdnohcepmdaa", sum := "fedf865df6a5e2ee2e054360502ee3150a18895fc9f3d31fc42a89a8d981f92c", func := "salesroom/salesroomlaw10.WeightsIdle", spec := "weightsIdle", unfollowed := true, recurses := true, apart := false }
def WeightsIdleSaid : Prop := weightsIdleRow.holds Try.pinned (OpenSpec.ofChange weightsIdleSpec)

/-- ITS FALSE NEIGHBOUR: 'it returns false'. Refute it at one input. -/
def weightsIdleWrong : ChangeSpec := { name := "weightsIdle", fn := fun _ => fun
  | [d] => { results := [.lit (.bool false)], args := [d] }
  | _ => none }
def WeightsIdleWrongFalsely : Prop := weightsIdleRow.holds Try.pinned (OpenSpec.ofChange weightsIdleWrong)

/-- 'salesroomlaw10.WeightsRaised': WHATEVER THE INPUT: true; the input reads as it did. -/
def weightsRaisedSpec : ChangeSpec := { name := "weightsRaised", fn := fun _ => fun
  | [d1, d2, d3] => { results := [.lit (.bool true)], args := [d1, d2, d3] }
  | _ => none }
def weightsRaisedRow : OpenClaim := { program := "ytknkdnohcepmdaa", sum := "fedf865df6a5e2ee2e054360502ee3150a18895fc9f3d31fc42a89a8d981f92c", func := "salesroom/salesroomlaw10.WeightsRaised", spec := "weightsRaised", unfollowed := true, recurses := true, apart := false }
def WeightsRaisedSaid : Prop := weightsRaisedRow.holds Try.pinned (OpenSpec.ofChange weightsRaisedSpec)

/-- ITS FALSE NEIGHBOUR: 'it returns false'. Refute it at one input. -/
def weightsRaisedWrong : ChangeSpec := { name := "weightsRaised", fn := fun _ => fun
  | [d1, d2, d3] => { results := [.lit (.bool false)], args := [d1, d2, d3] }
  | _ => none }
def WeightsRaisedWrongFalsely : Prop := weightsRaisedRow.holds Try.pinned (OpenSpec.ofChange weightsRaisedWrong)

/- THE SECOND FORM. 'bulk': how many values and letters a reading holds, each counted each time it is reached (what is shared counts as often as it is met; a slice's spare places count too). A statement '..UptoSaid' is the law's where the arguments, and the package variables that the reading takes, are together of bulk at most 1048576: NARROWER than '..Said'. Prove '..Said' where nothing that the law and all that it calls make is longer than what came in: it says more and counts as full. Else prove '..UptoSaid'. A law counts once. -/
mutual
def uptoBulk {H : Type} : DataW H → Nat
  | .lit (.string bytes) => bytes.length + 1
  | .lit _ => 1
  | .nil => 1
  | .ptr d => uptoBulk d + 1
  | .slice elems spare => uptoBulkAll elems + uptoBulkAll spare + 1
  | .agg parts => uptoBulkAll parts + 1
  | .iface _ d => uptoBulk d + 1
  | .map entries => uptoBulkEntries entries + 1
  | .held _ => 1
def uptoBulkAll {H : Type} : List (DataW H) → Nat
  | [] => 0
  | d :: r => uptoBulk d + uptoBulkAll r
def uptoBulkEntries {H : Type} : List (Lit × DataW H) → Nat
  | [] => 0
  | x :: r => uptoBulkEntry x + uptoBulkEntries r
def uptoBulkEntry {H : Type} : Lit × DataW H → Nat
  | (.string bytes, d) => bytes.length + uptoBulk d + 1
  | (_, d) => uptoBulk d + 1
 end
def uptoSmall : (H : Type) → List (DataW H) → Bool := fun _ ds => decide (uptoBulkAll ds ≤ 1048576)
def OpenSpec.upto (s : _root_.Go.ChangeSpec) : _root_.Go.OpenSpec := { _root_.Go.OpenSpec.ofChange s with cond := some uptoSmall }

/-- 'salesroomlaw10.WeightsProved', WHERE WHAT IT READS IS OF BULK AT MOST 1048576: true; the input reads as it did. -/
def weightsProvedUptoRow : OpenClaim := { program := "ytknkdnohcepmdaa", sum := "fedf865df6a5e2ee2e054360502ee3150a18895fc9f3d31fc42a89a8d981f92c", func := "salesroom/salesroomlaw10.WeightsProved", spec := "weightsProved", unfollowed := true, recurses := true, apart := false, narrowed := true }
def WeightsProvedUptoSaid : Prop := weightsProvedUptoRow.holds Try.pinned (OpenSpec.upto weightsProvedSpec)

/-- 'salesroomlaw10.WeightsLeast', WHERE WHAT IT READS IS OF BULK AT MOST 1048576: true; the input reads as it did. -/
def weightsLeastUptoRow : OpenClaim := { program := "ytknkdnohcepmdaa", sum := "fedf865df6a5e2ee2e054360502ee3150a18895fc9f3d31fc42a89a8d981f92c", func := "salesroom/salesroomlaw10.WeightsLeast", spec := "weightsLeast", unfollowed := true, recurses := true, apart := false, narrowed := true }
def WeightsLeastUptoSaid : Prop := weightsLeastUptoRow.holds Try.pinned (OpenSpec.upto weightsLeastSpec)

/-- 'salesroomlaw10.WeightsMore', WHERE WHAT IT READS IS OF BULK AT MOST 1048576: true; the input reads as it did. -/
def weightsMoreUptoRow : OpenClaim := { program := "ytknkdnohcepmdaa", sum := "fedf865df6a5e2ee2e054360502ee3150a18895fc9f3d31fc42a89a8d981f92c", func := "salesroom/salesroomlaw10.WeightsMore", spec := "weightsMore", unfollowed := true, recurses := true, apart := false, narrowed := true }
def WeightsMoreUptoSaid : Prop := weightsMoreUptoRow.holds Try.pinned (OpenSpec.upto weightsMoreSpec)

/-- 'salesroomlaw10.WeightsOrder', WHERE WHAT IT READS IS OF BULK AT MOST 1048576: true; the input reads as it did. -/
def weightsOrderUptoRow : OpenClaim := { program := "ytknkdnohcepmdaa", sum := "fedf865df6a5e2ee2e054360502ee3150a18895fc9f3d31fc42a89a8d981f92c", func := "salesroom/salesroomlaw10.WeightsOrder", spec := "weightsOrder", unfollowed := true, recurses := true, apart := false, narrowed := true }
def WeightsOrderUptoSaid : Prop := weightsOrderUptoRow.holds Try.pinned (OpenSpec.upto weightsOrderSpec)

/-- 'salesroomlaw10.WeightsTimes', WHERE WHAT IT READS IS OF BULK AT MOST 1048576: true; the input reads as it did. -/
def weightsTimesUptoRow : OpenClaim := { program := "ytknkdnohcepmdaa", sum := "fedf865df6a5e2ee2e054360502ee3150a18895fc9f3d31fc42a89a8d981f92c", func := "salesroom/salesroomlaw10.WeightsTimes", spec := "weightsTimes", unfollowed := true, recurses := true, apart := false, narrowed := true }
def WeightsTimesUptoSaid : Prop := weightsTimesUptoRow.holds Try.pinned (OpenSpec.upto weightsTimesSpec)

/-- 'salesroomlaw10.WeightsLoss', WHERE WHAT IT READS IS OF BULK AT MOST 1048576: true; the input reads as it did. -/
def weightsLossUptoRow : OpenClaim := { program := "ytknkdnohcepmdaa", sum := "fedf865df6a5e2ee2e054360502ee3150a18895fc9f3d31fc42a89a8d981f92c", func := "salesroom/salesroomlaw10.WeightsLoss", spec := "weightsLoss", unfollowed := true, recurses := true, apart := false, narrowed := true }
def WeightsLossUptoSaid : Prop := weightsLossUptoRow.holds Try.pinned (OpenSpec.upto weightsLossSpec)

/-- 'salesroomlaw10.WeightsUpper', WHERE WHAT IT READS IS OF BULK AT MOST 1048576: true; the input reads as it did. -/
def weightsUpperUptoRow : OpenClaim := { program := "ytknkdnohcepmdaa", sum := "fedf865df6a5e2ee2e054360502ee3150a18895fc9f3d31fc42a89a8d981f92c", func := "salesroom/salesroomlaw10.WeightsUpper", spec := "weightsUpper", unfollowed := true, recurses := true, apart := false, narrowed := true }
def WeightsUpperUptoSaid : Prop := weightsUpperUptoRow.holds Try.pinned (OpenSpec.upto weightsUpperSpec)

/-- 'salesroomlaw10.WeightsFewer', WHERE WHAT IT READS IS OF BULK AT MOST 1048576: true; the input reads as it did. -/
def weightsFewerUptoRow : OpenClaim := { program := "ytknkdnohcepmdaa", sum := "fedf865df6a5e2ee2e054360502ee3150a18895fc9f3d31fc42a89a8d981f92c", func := "salesroom/salesroomlaw10.WeightsFewer", spec := "weightsFewer", unfollowed := true, recurses := true, apart := false, narrowed := true }
def WeightsFewerUptoSaid : Prop := weightsFewerUptoRow.holds Try.pinned (OpenSpec.upto weightsFewerSpec)

/-- 'salesroomlaw10.WeightsIdle', WHERE WHAT IT READS IS OF BULK AT MOST 1048576: true; the input reads as it did. -/
def weightsIdleUptoRow : OpenClaim := { program := "ytknkdnohcepmdaa", sum := "fedf865df6a5e2ee2e054360502ee3150a18895fc9f3d31fc42a89a8d981f92c", func := "salesroom/salesroomlaw10.WeightsIdle", spec := "weightsIdle", unfollowed := true, recurses := true, apart := false, narrowed := true }
def WeightsIdleUptoSaid : Prop := weightsIdleUptoRow.holds Try.pinned (OpenSpec.upto weightsIdleSpec)

/-- 'salesroomlaw10.WeightsRaised', WHERE WHAT IT READS IS OF BULK AT MOST 1048576: true; the input reads as it did. -/
def weightsRaisedUptoRow : OpenClaim := { program := "ytknkdnohcepmdaa", sum := "fedf865df6a5e2ee2e054360502ee3150a18895fc9f3d31fc42a89a8d981f92c", func := "salesroom/salesroomlaw10.WeightsRaised", spec := "weightsRaised", unfollowed := true, recurses := true, apart := false, narrowed := true }
def WeightsRaisedUptoSaid : Prop := weightsRaisedUptoRow.holds Try.pinned (OpenSpec.upto weightsRaisedSpec)

end Rows
end Go.Proofs.Ytknkdnohcepmdaa
