/-
  No cell of these rows narrows 'for every input' (looked for: loops, veiled, ifaces, maps, wideKeys, modest, calm, conditions, laid).
  DERIVED. THE GIVEN ROWS OF THIS SEAT. 6 by the template 'for every input the law returns true; each argument reads behind the call as it read before'; 0 by the template 'total and deterministic' (their statements: YtifbgpkjbciblaaTotals.lean).
  GIVEN WITH THE SEED: the statements are not yours to turn. If you find one false, say at which input.
  Laid BY PROGRAM, IN A SANDBOX (cutbox-rows.mjs): the forced cells as the released guide's own fill.sh prints them over the translation 9f00989f6c78d315… (all of the seat's roots in one cut). By AI agents, Wed Nov 11 2026. No macro, syntax, notation, axiom, sorry.
-/
import Derived.Test.YtifbgpkjbciblaaChecked
import GoSem.Claim
import GoSem.ClaimJoined
import GoSem.ClaimMapViews
import Derived.JoinedTies
import Derived.KernelRfl
namespace Go.Proofs.Ytifbgpkjbciblaa
/- THE CELL 'sum', in the pinned program and in every row, IS THE sha256 OF THE DUMP (.gsa) THAT YtifbgpkjbciblaaProg.lean LOADS. Nothing in Lean hashes anything: it is a label: what it is worth is what the hold of that sum in a sandbox is worth. -/
noncomputable def Try.pinned : Pinned := { name := "ytifbgpkjbciblaa", sum := "9f00989f6c78d3153e9a76267238c1af78af57bb4fda777954c07cd540ce9da1", checked := Try.checked }
namespace Rows
def none {H : Type} : Left H := { results := [], args := [] }

/-- 'salesroomlaw13.RisesEnd': WHATEVER THE INPUT: true; the input reads as it did. -/
def risesEndSpec : ChangeSpec := { name := "risesEnd", fn := fun _ => fun
  | [d] => { results := [.lit (.bool true)], args := [d] }
  | _ => none }
def risesEndRow : OpenClaim := { program := "ytifbgpkjbciblaa", sum := "9f00989f6c78d3153e9a76267238c1af78af57bb4fda777954c07cd540ce9da1", func := "salesroom/salesroomlaw13.RisesEnd", spec := "risesEnd", unfollowed := true, recurses := true, apart := false }
def RisesEndSaid : Prop := risesEndRow.holds Try.pinned (OpenSpec.ofChange risesEndSpec)

/-- ITS FALSE NEIGHBOUR: 'it returns false'. Refute it at one input. -/
def risesEndWrong : ChangeSpec := { name := "risesEnd", fn := fun _ => fun
  | [d] => { results := [.lit (.bool false)], args := [d] }
  | _ => none }
def RisesEndWrongFalsely : Prop := risesEndRow.holds Try.pinned (OpenSpec.ofChange risesEndWrong)

/-- 'salesroomlaw13.RisesOrder': WHATEVER THE INPUT: true; the input reads as it did. -/
def risesOrderSpec : ChangeSpec := { name := "risesOrder", fn := fun _ => fun
  | [d1, d2] => { results := [.lit (.bool true)], args := [d1, d2] }
  | _ => none }
def risesOrderRow : OpenClaim := { program := "ytifbgpkjbciblaa", sum := "9f00989f6c78d3153e9a76267238c1af78af57bb4fda777954c07cd540ce9da1", func := "salesroom/salesroomlaw13.RisesOrder", spec := "risesOrder", unfollowed := true, recurses := true, apart := false }
def RisesOrderSaid : Prop := risesOrderRow.holds Try.pinned (OpenSpec.ofChange risesOrderSpec)

/-- ITS FALSE NEIGHBOUR: 'it returns false'. Refute it at one input. -/
def risesOrderWrong : ChangeSpec := { name := "risesOrder", fn := fun _ => fun
  | [d1, d2] => { results := [.lit (.bool false)], args := [d1, d2] }
  | _ => none }
def RisesOrderWrongFalsely : Prop := risesOrderRow.holds Try.pinned (OpenSpec.ofChange risesOrderWrong)

/-- 'salesroomlaw13.RisesScale': WHATEVER THE INPUT: true; the input reads as it did. -/
def risesScaleSpec : ChangeSpec := { name := "risesScale", fn := fun _ => fun
  | [d1, d2] => { results := [.lit (.bool true)], args := [d1, d2] }
  | _ => none }
def risesScaleRow : OpenClaim := { program := "ytifbgpkjbciblaa", sum := "9f00989f6c78d3153e9a76267238c1af78af57bb4fda777954c07cd540ce9da1", func := "salesroom/salesroomlaw13.RisesScale", spec := "risesScale", unfollowed := true, recurses := true, apart := false }
def RisesScaleSaid : Prop := risesScaleRow.holds Try.pinned (OpenSpec.ofChange risesScaleSpec)

/-- ITS FALSE NEIGHBOUR: 'it returns false'. Refute it at one input. -/
def risesScaleWrong : ChangeSpec := { name := "risesScale", fn := fun _ => fun
  | [d1, d2] => { results := [.lit (.bool false)], args := [d1, d2] }
  | _ => none }
def RisesScaleWrongFalsely : Prop := risesScaleRow.holds Try.pinned (OpenSpec.ofChange risesScaleWrong)

/-- 'salesroomlaw13.RisesAlone': WHATEVER THE INPUT: true; the input reads as it did. -/
def risesAloneSpec : ChangeSpec := { name := "risesAlone", fn := fun _ => fun
  | [d1, d2, d3] => { results := [.lit (.bool true)], args := [d1, d2, d3] }
  | _ => none }
def risesAloneRow : OpenClaim := { program := "ytifbgpkjbciblaa", sum := "9f00989f6c78d3153e9a76267238c1af78af57bb4fda777954c07cd540ce9da1", func := "salesroom/salesroomlaw13.RisesAlone", spec := "risesAlone", unfollowed := true, recurses := true, apart := false }
def RisesAloneSaid : Prop := risesAloneRow.holds Try.pinned (OpenSpec.ofChange risesAloneSpec)

/-- ITS FALSE NEIGHBOUR: 'it returns false'. Refute it at one input. -/
def risesAloneWrong : ChangeSpec := { name := "risesAlone", fn := fun _ => fun
  | [d1, d2, d3] => { results := [.lit (.bool false)], args := [d1, d2, d3] }
  | _ => none }
def RisesAloneWrongFalsely : Prop := risesAloneRow.holds Try.pinned (OpenSpec.ofChange risesAloneWrong)

/-- 'salesroomlaw13.RisesUp': WHATEVER THE INPUT: true; the input reads as it did. -/
def risesUpSpec : ChangeSpec := { name := "risesUp", fn := fun _ => fun
  | [d] => { results := [.lit (.bool true)], args := [d] }
  | _ => none }
def risesUpRow : OpenClaim := { program := "ytifbgpkjbciblaa", sum := "9f00989f6c78d3153e9a76267238c1af78af57bb4fda777954c07cd540ce9da1", func := "salesroom/salesroomlaw13.RisesUp", spec := "risesUp", unfollowed := true, recurses := true, apart := false }
def RisesUpSaid : Prop := risesUpRow.holds Try.pinned (OpenSpec.ofChange risesUpSpec)

/-- ITS FALSE NEIGHBOUR: 'it returns false'. Refute it at one input. -/
def risesUpWrong : ChangeSpec := { name := "risesUp", fn := fun _ => fun
  | [d] => { results := [.lit (.bool false)], args := [d] }
  | _ => none }
def RisesUpWrongFalsely : Prop := risesUpRow.holds Try.pinned (OpenSpec.ofChange risesUpWrong)

/-- 'salesroomlaw13.RisesMore': WHATEVER THE INPUT: true; the input reads as it did. -/
def risesMoreSpec : ChangeSpec := { name := "risesMore", fn := fun _ => fun
  | [d1, d2] => { results := [.lit (.bool true)], args := [d1, d2] }
  | _ => none }
def risesMoreRow : OpenClaim := { program := "ytifbgpkjbciblaa", sum := "9f00989f6c78d3153e9a76267238c1af78af57bb4fda777954c07cd540ce9da1", func := "salesroom/salesroomlaw13.RisesMore", spec := "risesMore", unfollowed := true, recurses := true, apart := false }
def RisesMoreSaid : Prop := risesMoreRow.holds Try.pinned (OpenSpec.ofChange risesMoreSpec)

/-- ITS FALSE NEIGHBOUR: 'it returns false'. Refute it at one input. -/
def risesMoreWrong : ChangeSpec := { name := "risesMore", fn := fun _ => fun
  | [d1, d2] => { results := [.lit (.bool false)], args := [d1, d2] }
  | _ => none }
def RisesMoreWrongFalsely : Prop := risesMoreRow.holds Try.pinned (OpenSpec.ofChange risesMoreWrong)

/- THE SECOND FORM. 'bulk': how many values and letters a reading holds, each counted each time it is reached (what is shared counts as often as it is met; a slice's spare places count too). A statement '..UptoSaid' is the law's where the arguments, and the package variables that the reading takes, are together of bulk at most 1048576: NARROWER than '..Said'. Prove '..Said' where nothing that the law and all that it calls make is longer than what came in: it says more and counts as full. Else prove '..UptoSaid'. A law counts once. -/
mutual
def uptoBulk {H : Type} : DataW H → Nat
  | .lit (.string bytes) => bytes.length + 1
  | .lit _ => 1
  | .nil => 1
  | .ptr d => uptoBulk d + 1
  | .slice elems spare => uptoBulkAll elems + uptoBulkAll spare + 1
  | .agg parts => uptoBulkAll parts + 1
  | .iface _ d => uptoBulk d + 1
  | .map entries => uptoBulkEntries entries + 1
  | .held _ => 1
def uptoBulkAll {H : Type} : List (DataW H) → Nat
  | [] => 0
  | d :: r => uptoBulk d + uptoBulkAll r
def uptoBulkEntries {H : Type} : List (Lit × DataW H) → Nat
  | [] => 0
  | x :: r => uptoBulkEntry x + uptoBulkEntries r
def uptoBulkEntry {H : Type} : Lit × DataW H → Nat
  | (.string bytes, d) => bytes.length + uptoBulk d + 1
  | (_, d) => uptoBulk d + 1
 end
def uptoSmall : (H : Type) → List (DataW H) → Bool := fun _ ds => decide (uptoBulkAll ds ≤ 1048576)
def OpenSpec.upto (s : _root_.Go.ChangeSpec) : _root_.Go.OpenSpec := { _root_.Go.OpenSpec.ofChange s with cond := some uptoSmall }

/-- 'salesroomlaw13.RisesEnd', WHERE WHAT IT READS IS OF BULK AT MOST 1048576: true; the input reads as it did. -/
def risesEndUptoRow : OpenClaim := { program := "ytifbgpkjbciblaa", sum := "9f00989f6c78d3153e9a76267238c1af78af57bb4fda777954c07cd540ce9da1", func := "salesroom/salesroomlaw13.RisesEnd", spec := "risesEnd", unfollowed := true, recurses := true, apart := false, narrowed := true }
def RisesEndUptoSaid : Prop := risesEndUptoRow.holds Try.pinned (OpenSpec.upto risesEndSpec)

/-- 'salesroomlaw13.RisesOrder', WHERE WHAT IT READS IS OF BULK AT MOST 1048576: true; the input reads as it did. -/
def risesOrderUptoRow : OpenClaim := { program := "ytifbgpkjbciblaa", sum := "9f00989f6c78d3153e9a76267238c1af78af57bb4fda777954c07cd540ce9da1", func := "salesroom/salesroomlaw13.RisesOrder", spec := "risesOrder", unfollowed := true, recurses := true, apart := false, narrowed := true }
def RisesOrderUptoSaid : Prop := risesOrderUptoRow.holds Try.pinned (OpenSpec.upto risesOrderSpec)

/-- 'salesroomlaw13.RisesScale', WHERE WHAT IT READS IS OF BULK AT MOST 1048576: true; the input reads as it did. -/
def risesScaleUptoRow : OpenClaim := { program := "ytifbgpkjbciblaa", sum := "9f00989f6c78d3153e9a76267238c1af78af57bb4fda777954c07cd540ce9da1", func := "salesroom/salesroomlaw13.RisesScale", spec := "risesScale", unfollowed := true, recurses := true, apart := false, narrowed := true }
def RisesScaleUptoSaid : Prop := risesScaleUptoRow.holds Try.pinned (OpenSpec.upto risesScaleSpec)

/-- 'salesroomlaw13.RisesAlone', WHERE WHAT IT READS IS OF BULK AT MOST 1048576: true; the input reads as it did. -/
def risesAloneUptoRow : OpenClaim := { program := "ytifbgpkjbciblaa", sum := "9f00989f6c78d3153e9a76267238c1af78af57bb4fda777954c07cd540ce9da1", func := "salesroom/salesroomlaw13.RisesAlone", spec := "risesAlone", unfollowed := true, recurses := true, apart := false, narrowed := true }
def RisesAloneUptoSaid : Prop := risesAloneUptoRow.holds Try.pinned (OpenSpec.upto risesAloneSpec)

/-- 'salesroomlaw13.RisesUp', WHERE WHAT IT READS IS OF BULK AT MOST 1048576: true; the input reads as it did. -/
def risesUpUptoRow : OpenClaim := { program := "ytifbgpkjbciblaa", sum := "9f00989f6c78d3153e9a76267238c1af78af57bb4fda777954c07cd540ce9da1", func := "salesroom/salesroomlaw13.RisesUp", spec := "risesUp", unfollowed := true, recurses := true, apart := false, narrowed := true }
def RisesUpUptoSaid : Prop := risesUpUptoRow.holds Try.pinned (OpenSpec.upto risesUpSpec)

/-- 'salesroomlaw13.RisesMore', WHERE WHAT IT READS IS OF BULK AT MOST 1048576: true; the input reads as it did. -/
def risesMoreUptoRow : OpenClaim := { program := "ytifbgpkjbciblaa", sum := "9f00989f6c78d3153e9a76267238c1af78af57bb4fda777954c07cd540ce9da1", func := "salesroom/salesroomlaw13.RisesMore", spec := "risesMore", unfollowed := true, recurses := true, apart := false, narrowed := true }
def RisesMoreUptoSaid : Prop := risesMoreUptoRow.holds Try.pinned (OpenSpec.upto risesMoreSpec)

end Rows
end Go.Proofs.Ytifbgpkjbciblaa
