/-
  No cell of these rows narrows 'for every input' (looked for: loops, veiled, ifaces, maps, wideKeys, modest, calm, conditions, laid).
  DERIVED. THE GIVEN ROWS OF THIS SEAT. 17 by the template 'for every input the law returns true; each argument reads behind the call as it read before'; 0 by the template 'total and deterministic' (their statements: YtkhnohnkcdcajaaTotals.lean).
  GIVEN WITH THE SEED: the statements are not yours to turn. If you find one false, say at which input.
  Laid BY PROGRAM, IN A SANDBOX (cutbox-rows.mjs): the forced cells as the released guide's own fill.sh prints them over the translation b9337eb6fcdcd84a… (all of the seat's roots in one cut). By AI agents, Wed Nov 11 2026. No macro, syntax, notation, axiom, sorry.
-/
import Derived.Test.YtkhnohnkcdcajaaChecked
import GoSem.Claim
import GoSem.ClaimJoined
import GoSem.ClaimMapViews
import Derived.JoinedTies
import Derived.KernelRfl
namespace Go.Proofs.Ytkhnohnkcdcajaa
/- THE CELL 'sum', in the pinned program and in every row, IS THE sha256 OF THE DUMP (.gsa) THAT YtkhnohnkcdcajaaProg.lean LOADS. Nothing in Lean hashes anything: it is a label: what it is worth is what the hold of that sum in a sandbox is worth. -/
noncomputable def Try.pinned : Pinned := { name := "ytkhnohnkcdcajaa", sum := "b9337eb6fcdcd84a0996437c8fae4847d8e6356af033b436913fb5d252ab7e24", checked := Try.checked }
namespace Rows
def none {H : Type} : Left H := { results := [], args := [] }

/-- 'salesroomlaw06.GraphsTurned': WHATEVER THE INPUT: true; the input reads as it did. -/
def graphsTurnedSpec : ChangeSpec := { name := "graphsTurned", fn := fun _ => fun
  | [d] => { results := [.lit (.bool true)], args := [d] }
  | _ => none }
def graphsTurnedRow : OpenClaim := { program := "ytkhnohnkcdcajaa", sum := "b9337eb6fcdcd84a0996437c8fae4847d8e6356af033b436913fb5d252ab7e24", func := "salesroom/salesroomlaw06.GraphsTurned", spec := "graphsTurned", unfollowed := true, recurses := true, apart := false }
def GraphsTurnedSaid : Prop := graphsTurnedRow.holds Try.pinned (OpenSpec.ofChange graphsTurnedSpec)

/-- ITS FALSE NEIGHBOUR: 'it returns false'. Refute it at one input. -/
def graphsTurnedWrong : ChangeSpec := { name := "graphsTurned", fn := fun _ => fun
  | [d] => { results := [.lit (.bool false)], args := [d] }
  | _ => none }
def GraphsTurnedWrongFalsely : Prop := graphsTurnedRow.holds Try.pinned (OpenSpec.ofChange graphsTurnedWrong)

/-- 'salesroomlaw06.GraphsFits': WHATEVER THE INPUT: true; the input reads as it did. -/
def graphsFitsSpec : ChangeSpec := { name := "graphsFits", fn := fun _ => fun
  | [d1, d2, d3] => { results := [.lit (.bool true)], args := [d1, d2, d3] }
  | _ => none }
def graphsFitsRow : OpenClaim := { program := "ytkhnohnkcdcajaa", sum := "b9337eb6fcdcd84a0996437c8fae4847d8e6356af033b436913fb5d252ab7e24", func := "salesroom/salesroomlaw06.GraphsFits", spec := "graphsFits", unfollowed := true, recurses := true, apart := false }
def GraphsFitsSaid : Prop := graphsFitsRow.holds Try.pinned (OpenSpec.ofChange graphsFitsSpec)

/-- ITS FALSE NEIGHBOUR: 'it returns false'. Refute it at one input. -/
def graphsFitsWrong : ChangeSpec := { name := "graphsFits", fn := fun _ => fun
  | [d1, d2, d3] => { results := [.lit (.bool false)], args := [d1, d2, d3] }
  | _ => none }
def GraphsFitsWrongFalsely : Prop := graphsFitsRow.holds Try.pinned (OpenSpec.ofChange graphsFitsWrong)

/-- 'salesroomlaw06.GraphsNear': WHATEVER THE INPUT: true; the input reads as it did. -/
def graphsNearSpec : ChangeSpec := { name := "graphsNear", fn := fun _ => fun
  | [d1, d2, d3] => { results := [.lit (.bool true)], args := [d1, d2, d3] }
  | _ => none }
def graphsNearRow : OpenClaim := { program := "ytkhnohnkcdcajaa", sum := "b9337eb6fcdcd84a0996437c8fae4847d8e6356af033b436913fb5d252ab7e24", func := "salesroom/salesroomlaw06.GraphsNear", spec := "graphsNear", unfollowed := true, recurses := true, apart := false }
def GraphsNearSaid : Prop := graphsNearRow.holds Try.pinned (OpenSpec.ofChange graphsNearSpec)

/-- ITS FALSE NEIGHBOUR: 'it returns false'. Refute it at one input. -/
def graphsNearWrong : ChangeSpec := { name := "graphsNear", fn := fun _ => fun
  | [d1, d2, d3] => { results := [.lit (.bool false)], args := [d1, d2, d3] }
  | _ => none }
def GraphsNearWrongFalsely : Prop := graphsNearRow.holds Try.pinned (OpenSpec.ofChange graphsNearWrong)

/-- 'salesroomlaw06.GraphsMany': WHATEVER THE INPUT: true; the input reads as it did. -/
def graphsManySpec : ChangeSpec := { name := "graphsMany", fn := fun _ => fun
  | [d] => { results := [.lit (.bool true)], args := [d] }
  | _ => none }
def graphsManyRow : OpenClaim := { program := "ytkhnohnkcdcajaa", sum := "b9337eb6fcdcd84a0996437c8fae4847d8e6356af033b436913fb5d252ab7e24", func := "salesroom/salesroomlaw06.GraphsMany", spec := "graphsMany", unfollowed := true, recurses := true, apart := false }
def GraphsManySaid : Prop := graphsManyRow.holds Try.pinned (OpenSpec.ofChange graphsManySpec)

/-- ITS FALSE NEIGHBOUR: 'it returns false'. Refute it at one input. -/
def graphsManyWrong : ChangeSpec := { name := "graphsMany", fn := fun _ => fun
  | [d] => { results := [.lit (.bool false)], args := [d] }
  | _ => none }
def GraphsManyWrongFalsely : Prop := graphsManyRow.holds Try.pinned (OpenSpec.ofChange graphsManyWrong)

/-- 'salesroomlaw06.GraphsOne': WHATEVER THE INPUT: true; the input reads as it did. -/
def graphsOneSpec : ChangeSpec := { name := "graphsOne", fn := fun _ => fun
  | [d1, d2] => { results := [.lit (.bool true)], args := [d1, d2] }
  | _ => none }
def graphsOneRow : OpenClaim := { program := "ytkhnohnkcdcajaa", sum := "b9337eb6fcdcd84a0996437c8fae4847d8e6356af033b436913fb5d252ab7e24", func := "salesroom/salesroomlaw06.GraphsOne", spec := "graphsOne", unfollowed := true, recurses := true, apart := false }
def GraphsOneSaid : Prop := graphsOneRow.holds Try.pinned (OpenSpec.ofChange graphsOneSpec)

/-- ITS FALSE NEIGHBOUR: 'it returns false'. Refute it at one input. -/
def graphsOneWrong : ChangeSpec := { name := "graphsOne", fn := fun _ => fun
  | [d1, d2] => { results := [.lit (.bool false)], args := [d1, d2] }
  | _ => none }
def GraphsOneWrongFalsely : Prop := graphsOneRow.holds Try.pinned (OpenSpec.ofChange graphsOneWrong)

/-- 'salesroomlaw08.MatchingsMost': WHATEVER THE INPUT: true; the input reads as it did. -/
def matchingsMostSpec : ChangeSpec := { name := "matchingsMost", fn := fun _ => fun
  | [d] => { results := [.lit (.bool true)], args := [d] }
  | _ => none }
def matchingsMostRow : OpenClaim := { program := "ytkhnohnkcdcajaa", sum := "b9337eb6fcdcd84a0996437c8fae4847d8e6356af033b436913fb5d252ab7e24", func := "salesroom/salesroomlaw08.MatchingsMost", spec := "matchingsMost", unfollowed := true, recurses := true, apart := false }
def MatchingsMostSaid : Prop := matchingsMostRow.holds Try.pinned (OpenSpec.ofChange matchingsMostSpec)

/-- ITS FALSE NEIGHBOUR: 'it returns false'. Refute it at one input. -/
def matchingsMostWrong : ChangeSpec := { name := "matchingsMost", fn := fun _ => fun
  | [d] => { results := [.lit (.bool false)], args := [d] }
  | _ => none }
def MatchingsMostWrongFalsely : Prop := matchingsMostRow.holds Try.pinned (OpenSpec.ofChange matchingsMostWrong)

/-- 'salesroomlaw08.MatchingsAll': WHATEVER THE INPUT: true; the input reads as it did. -/
def matchingsAllSpec : ChangeSpec := { name := "matchingsAll", fn := fun _ => fun
  | [d1, d2, d3] => { results := [.lit (.bool true)], args := [d1, d2, d3] }
  | _ => none }
def matchingsAllRow : OpenClaim := { program := "ytkhnohnkcdcajaa", sum := "b9337eb6fcdcd84a0996437c8fae4847d8e6356af033b436913fb5d252ab7e24", func := "salesroom/salesroomlaw08.MatchingsAll", spec := "matchingsAll", unfollowed := true, recurses := true, apart := false }
def MatchingsAllSaid : Prop := matchingsAllRow.holds Try.pinned (OpenSpec.ofChange matchingsAllSpec)

/-- ITS FALSE NEIGHBOUR: 'it returns false'. Refute it at one input. -/
def matchingsAllWrong : ChangeSpec := { name := "matchingsAll", fn := fun _ => fun
  | [d1, d2, d3] => { results := [.lit (.bool false)], args := [d1, d2, d3] }
  | _ => none }
def MatchingsAllWrongFalsely : Prop := matchingsAllRow.holds Try.pinned (OpenSpec.ofChange matchingsAllWrong)

/-- 'salesroomlaw08.MatchingsAhead': WHATEVER THE INPUT: true; the input reads as it did. -/
def matchingsAheadSpec : ChangeSpec := { name := "matchingsAhead", fn := fun _ => fun
  | [d1, d2] => { results := [.lit (.bool true)], args := [d1, d2] }
  | _ => none }
def matchingsAheadRow : OpenClaim := { program := "ytkhnohnkcdcajaa", sum := "b9337eb6fcdcd84a0996437c8fae4847d8e6356af033b436913fb5d252ab7e24", func := "salesroom/salesroomlaw08.MatchingsAhead", spec := "matchingsAhead", unfollowed := true, recurses := true, apart := false }
def MatchingsAheadSaid : Prop := matchingsAheadRow.holds Try.pinned (OpenSpec.ofChange matchingsAheadSpec)

/-- ITS FALSE NEIGHBOUR: 'it returns false'. Refute it at one input. -/
def matchingsAheadWrong : ChangeSpec := { name := "matchingsAhead", fn := fun _ => fun
  | [d1, d2] => { results := [.lit (.bool false)], args := [d1, d2] }
  | _ => none }
def MatchingsAheadWrongFalsely : Prop := matchingsAheadRow.holds Try.pinned (OpenSpec.ofChange matchingsAheadWrong)

/-- 'salesroomlaw08.MatchingsLess': WHATEVER THE INPUT: true; the input reads as it did. -/
def matchingsLessSpec : ChangeSpec := { name := "matchingsLess", fn := fun _ => fun
  | [d1, d2, d3] => { results := [.lit (.bool true)], args := [d1, d2, d3] }
  | _ => none }
def matchingsLessRow : OpenClaim := { program := "ytkhnohnkcdcajaa", sum := "b9337eb6fcdcd84a0996437c8fae4847d8e6356af033b436913fb5d252ab7e24", func := "salesroom/salesroomlaw08.MatchingsLess", spec := "matchingsLess", unfollowed := true, recurses := true, apart := false }
def MatchingsLessSaid : Prop := matchingsLessRow.holds Try.pinned (OpenSpec.ofChange matchingsLessSpec)

/-- ITS FALSE NEIGHBOUR: 'it returns false'. Refute it at one input. -/
def matchingsLessWrong : ChangeSpec := { name := "matchingsLess", fn := fun _ => fun
  | [d1, d2, d3] => { results := [.lit (.bool false)], args := [d1, d2, d3] }
  | _ => none }
def MatchingsLessWrongFalsely : Prop := matchingsLessRow.holds Try.pinned (OpenSpec.ofChange matchingsLessWrong)

/-- 'salesroomlaw08.MatchingsApart': WHATEVER THE INPUT: true; the input reads as it did. -/
def matchingsApartSpec : ChangeSpec := { name := "matchingsApart", fn := fun _ => fun
  | [d1, d2, d3] => { results := [.lit (.bool true)], args := [d1, d2, d3] }
  | _ => none }
def matchingsApartRow : OpenClaim := { program := "ytkhnohnkcdcajaa", sum := "b9337eb6fcdcd84a0996437c8fae4847d8e6356af033b436913fb5d252ab7e24", func := "salesroom/salesroomlaw08.MatchingsApart", spec := "matchingsApart", unfollowed := true, recurses := true, apart := false }
def MatchingsApartSaid : Prop := matchingsApartRow.holds Try.pinned (OpenSpec.ofChange matchingsApartSpec)

/-- ITS FALSE NEIGHBOUR: 'it returns false'. Refute it at one input. -/
def matchingsApartWrong : ChangeSpec := { name := "matchingsApart", fn := fun _ => fun
  | [d1, d2, d3] => { results := [.lit (.bool false)], args := [d1, d2, d3] }
  | _ => none }
def MatchingsApartWrongFalsely : Prop := matchingsApartRow.holds Try.pinned (OpenSpec.ofChange matchingsApartWrong)

/-- 'salesroomlaw08.MatchingsTurned': WHATEVER THE INPUT: true; the input reads as it did. -/
def matchingsTurnedSpec : ChangeSpec := { name := "matchingsTurned", fn := fun _ => fun
  | [d1, d2, d3] => { results := [.lit (.bool true)], args := [d1, d2, d3] }
  | _ => none }
def matchingsTurnedRow : OpenClaim := { program := "ytkhnohnkcdcajaa", sum := "b9337eb6fcdcd84a0996437c8fae4847d8e6356af033b436913fb5d252ab7e24", func := "salesroom/salesroomlaw08.MatchingsTurned", spec := "matchingsTurned", unfollowed := true, recurses := true, apart := false }
def MatchingsTurnedSaid : Prop := matchingsTurnedRow.holds Try.pinned (OpenSpec.ofChange matchingsTurnedSpec)

/-- ITS FALSE NEIGHBOUR: 'it returns false'. Refute it at one input. -/
def matchingsTurnedWrong : ChangeSpec := { name := "matchingsTurned", fn := fun _ => fun
  | [d1, d2, d3] => { results := [.lit (.bool false)], args := [d1, d2, d3] }
  | _ => none }
def MatchingsTurnedWrongFalsely : Prop := matchingsTurnedRow.holds Try.pinned (OpenSpec.ofChange matchingsTurnedWrong)

/-- 'salesroomlaw09.HallsAll': WHATEVER THE INPUT: true; the input reads as it did. -/
def hallsAllSpec : ChangeSpec := { name := "hallsAll", fn := fun _ => fun
  | [d1, d2] => { results := [.lit (.bool true)], args := [d1, d2] }
  | _ => none }
def hallsAllRow : OpenClaim := { program := "ytkhnohnkcdcajaa", sum := "b9337eb6fcdcd84a0996437c8fae4847d8e6356af033b436913fb5d252ab7e24", func := "salesroom/salesroomlaw09.HallsAll", spec := "hallsAll", unfollowed := true, recurses := true, apart := false }
def HallsAllSaid : Prop := hallsAllRow.holds Try.pinned (OpenSpec.ofChange hallsAllSpec)

/-- ITS FALSE NEIGHBOUR: 'it returns false'. Refute it at one input. -/
def hallsAllWrong : ChangeSpec := { name := "hallsAll", fn := fun _ => fun
  | [d1, d2] => { results := [.lit (.bool false)], args := [d1, d2] }
  | _ => none }
def HallsAllWrongFalsely : Prop := hallsAllRow.holds Try.pinned (OpenSpec.ofChange hallsAllWrong)

/-- 'salesroomlaw09.HallsPart': WHATEVER THE INPUT: true; the input reads as it did. -/
def hallsPartSpec : ChangeSpec := { name := "hallsPart", fn := fun _ => fun
  | [d1, d2, d3] => { results := [.lit (.bool true)], args := [d1, d2, d3] }
  | _ => none }
def hallsPartRow : OpenClaim := { program := "ytkhnohnkcdcajaa", sum := "b9337eb6fcdcd84a0996437c8fae4847d8e6356af033b436913fb5d252ab7e24", func := "salesroom/salesroomlaw09.HallsPart", spec := "hallsPart", unfollowed := true, recurses := true, apart := false }
def HallsPartSaid : Prop := hallsPartRow.holds Try.pinned (OpenSpec.ofChange hallsPartSpec)

/-- ITS FALSE NEIGHBOUR: 'it returns false'. Refute it at one input. -/
def hallsPartWrong : ChangeSpec := { name := "hallsPart", fn := fun _ => fun
  | [d1, d2, d3] => { results := [.lit (.bool false)], args := [d1, d2, d3] }
  | _ => none }
def HallsPartWrongFalsely : Prop := hallsPartRow.holds Try.pinned (OpenSpec.ofChange hallsPartWrong)

/-- 'salesroomlaw09.HallsFirst': WHATEVER THE INPUT: true; the input reads as it did. -/
def hallsFirstSpec : ChangeSpec := { name := "hallsFirst", fn := fun _ => fun
  | [d1, d2, d3] => { results := [.lit (.bool true)], args := [d1, d2, d3] }
  | _ => none }
def hallsFirstRow : OpenClaim := { program := "ytkhnohnkcdcajaa", sum := "b9337eb6fcdcd84a0996437c8fae4847d8e6356af033b436913fb5d252ab7e24", func := "salesroom/salesroomlaw09.HallsFirst", spec := "hallsFirst", unfollowed := true, recurses := true, apart := false }
def HallsFirstSaid : Prop := hallsFirstRow.holds Try.pinned (OpenSpec.ofChange hallsFirstSpec)

/-- ITS FALSE NEIGHBOUR: 'it returns false'. Refute it at one input. -/
def hallsFirstWrong : ChangeSpec := { name := "hallsFirst", fn := fun _ => fun
  | [d1, d2, d3] => { results := [.lit (.bool false)], args := [d1, d2, d3] }
  | _ => none }
def HallsFirstWrongFalsely : Prop := hallsFirstRow.holds Try.pinned (OpenSpec.ofChange hallsFirstWrong)

/-- 'salesroomlaw09.HallsMore': WHATEVER THE INPUT: true; the input reads as it did. -/
def hallsMoreSpec : ChangeSpec := { name := "hallsMore", fn := fun _ => fun
  | [d1, d2, d3] => { results := [.lit (.bool true)], args := [d1, d2, d3] }
  | _ => none }
def hallsMoreRow : OpenClaim := { program := "ytkhnohnkcdcajaa", sum := "b9337eb6fcdcd84a0996437c8fae4847d8e6356af033b436913fb5d252ab7e24", func := "salesroom/salesroomlaw09.HallsMore", spec := "hallsMore", unfollowed := true, recurses := true, apart := false }
def HallsMoreSaid : Prop := hallsMoreRow.holds Try.pinned (OpenSpec.ofChange hallsMoreSpec)

/-- ITS FALSE NEIGHBOUR: 'it returns false'. Refute it at one input. -/
def hallsMoreWrong : ChangeSpec := { name := "hallsMore", fn := fun _ => fun
  | [d1, d2, d3] => { results := [.lit (.bool false)], args := [d1, d2, d3] }
  | _ => none }
def HallsMoreWrongFalsely : Prop := hallsMoreRow.holds Try.pinned (OpenSpec.ofChange hallsMoreWrong)

/-- 'salesroomlaw09.HallsNamed': WHATEVER THE INPUT: true; the input reads as it did. -/
def hallsNamedSpec : ChangeSpec := { name := "hallsNamed", fn := fun _ => fun
  | [d1, d2] => { results := [.lit (.bool true)], args := [d1, d2] }
  | _ => none }
def hallsNamedRow : OpenClaim := { program := "ytkhnohnkcdcajaa", sum := "b9337eb6fcdcd84a0996437c8fae4847d8e6356af033b436913fb5d252ab7e24", func := "salesroom/salesroomlaw09.HallsNamed", spec := "hallsNamed", unfollowed := true, recurses := true, apart := false }
def HallsNamedSaid : Prop := hallsNamedRow.holds Try.pinned (OpenSpec.ofChange hallsNamedSpec)

/-- ITS FALSE NEIGHBOUR: 'it returns false'. Refute it at one input. -/
def hallsNamedWrong : ChangeSpec := { name := "hallsNamed", fn := fun _ => fun
  | [d1, d2] => { results := [.lit (.bool false)], args := [d1, d2] }
  | _ => none }
def HallsNamedWrongFalsely : Prop := hallsNamedRow.holds Try.pinned (OpenSpec.ofChange hallsNamedWrong)

/-- 'salesroomlaw09.HallsSame': WHATEVER THE INPUT: true; the input reads as it did. -/
def hallsSameSpec : ChangeSpec := { name := "hallsSame", fn := fun _ => fun
  | [d1, d2] => { results := [.lit (.bool true)], args := [d1, d2] }
  | _ => none }
def hallsSameRow : OpenClaim := { program := "ytkhnohnkcdcajaa", sum := "b9337eb6fcdcd84a0996437c8fae4847d8e6356af033b436913fb5d252ab7e24", func := "salesroom/salesroomlaw09.HallsSame", spec := "hallsSame", unfollowed := true, recurses := true, apart := false }
def HallsSameSaid : Prop := hallsSameRow.holds Try.pinned (OpenSpec.ofChange hallsSameSpec)

/-- ITS FALSE NEIGHBOUR: 'it returns false'. Refute it at one input. -/
def hallsSameWrong : ChangeSpec := { name := "hallsSame", fn := fun _ => fun
  | [d1, d2] => { results := [.lit (.bool false)], args := [d1, d2] }
  | _ => none }
def HallsSameWrongFalsely : Prop := hallsSameRow.holds Try.pinned (OpenSpec.ofChange hallsSameWrong)

/- THE SECOND FORM. 'bulk': how many values and letters a reading holds, each counted each time it is reached (what is shared counts as often as it is met; a slice's spare places count too). A statement '..UptoSaid' is the law's where the arguments, and the package variables that the reading takes, are together of bulk at most 1048576: NARROWER than '..Said'. Prove '..Said' where nothing that the law and all that it calls make is longer than what came in: it says more and counts as full. Else prove '..UptoSaid'. A law counts once. -/
mutual
def uptoBulk {H : Type} : DataW H → Nat
  | .lit (.string bytes) => bytes.length + 1
  | .lit _ => 1
  | .nil => 1
  | .ptr d => uptoBulk d + 1
  | .slice elems spare => uptoBulkAll elems + uptoBulkAll spare + 1
  | .agg parts => uptoBulkAll parts + 1
  | .iface _ d => uptoBulk d + 1
  | .map entries => uptoBulkEntries entries + 1
  | .held _ => 1
def uptoBulkAll {H : Type} : List (DataW H) → Nat
  | [] => 0
  | d :: r => uptoBulk d + uptoBulkAll r
def uptoBulkEntries {H : Type} : List (Lit × DataW H) → Nat
  | [] => 0
  | x :: r => uptoBulkEntry x + uptoBulkEntries r
def uptoBulkEntry {H : Type} : Lit × DataW H → Nat
  | (.string bytes, d) => bytes.length + uptoBulk d + 1
  | (_, d) => uptoBulk d + 1
 end
def uptoSmall : (H : Type) → List (DataW H) → Bool := fun _ ds => decide (uptoBulkAll ds ≤ 1048576)
def OpenSpec.upto (s : _root_.Go.ChangeSpec) : _root_.Go.OpenSpec := { _root_.Go.OpenSpec.ofChange s with cond := some uptoSmall }

/-- 'salesroomlaw06.GraphsTurned', WHERE WHAT IT READS IS OF BULK AT MOST 1048576: true; the input reads as it did. -/
def graphsTurnedUptoRow : OpenClaim := { program := "ytkhnohnkcdcajaa", sum := "b9337eb6fcdcd84a0996437c8fae4847d8e6356af033b436913fb5d252ab7e24", func := "salesroom/salesroomlaw06.GraphsTurned", spec := "graphsTurned", unfollowed := true, recurses := true, apart := false, narrowed := true }
def GraphsTurnedUptoSaid : Prop := graphsTurnedUptoRow.holds Try.pinned (OpenSpec.upto graphsTurnedSpec)

/-- 'salesroomlaw06.GraphsFits', WHERE WHAT IT READS IS OF BULK AT MOST 1048576: true; the input reads as it did. -/
def graphsFitsUptoRow : OpenClaim := { program := "ytkhnohnkcdcajaa", sum := "b9337eb6fcdcd84a0996437c8fae4847d8e6356af033b436913fb5d252ab7e24", func := "salesroom/salesroomlaw06.GraphsFits", spec := "graphsFits", unfollowed := true, recurses := true, apart := false, narrowed := true }
def GraphsFitsUptoSaid : Prop := graphsFitsUptoRow.holds Try.pinned (OpenSpec.upto graphsFitsSpec)

/-- 'salesroomlaw06.GraphsNear', WHERE WHAT IT READS IS OF BULK AT MOST 1048576: true; the input reads as it did. -/
def graphsNearUptoRow : OpenClaim := { program := "ytkhnohnkcdcajaa", sum := "b9337eb6fcdcd84a0996437c8fae4847d8e6356af033b436913fb5d252ab7e24", func := "salesroom/salesroomlaw06.GraphsNear", spec := "graphsNear", unfollowed := true, recurses := true, apart := false, narrowed := true }
def GraphsNearUptoSaid : Prop := graphsNearUptoRow.holds Try.pinned (OpenSpec.upto graphsNearSpec)

/-- 'salesroomlaw06.GraphsMany', WHERE WHAT IT READS IS OF BULK AT MOST 1048576: true; the input reads as it did. -/
def graphsManyUptoRow : OpenClaim := { program := "ytkhnohnkcdcajaa", sum := "b9337eb6fcdcd84a0996437c8fae4847d8e6356af033b436913fb5d252ab7e24", func := "salesroom/salesroomlaw06.GraphsMany", spec := "graphsMany", unfollowed := true, recurses := true, apart := false, narrowed := true }
def GraphsManyUptoSaid : Prop := graphsManyUptoRow.holds Try.pinned (OpenSpec.upto graphsManySpec)

/-- 'salesroomlaw06.GraphsOne', WHERE WHAT IT READS IS OF BULK AT MOST 1048576: true; the input reads as it did. -/
def graphsOneUptoRow : OpenClaim := { program := "ytkhnohnkcdcajaa", sum := "b9337eb6fcdcd84a0996437c8fae4847d8e6356af033b436913fb5d252ab7e24", func := "salesroom/salesroomlaw06.GraphsOne", spec := "graphsOne", unfollowed := true, recurses := true, apart := false, narrowed := true }
def GraphsOneUptoSaid : Prop := graphsOneUptoRow.holds Try.pinned (OpenSpec.upto graphsOneSpec)

/-- 'salesroomlaw08.MatchingsMost', WHERE WHAT IT READS IS OF BULK AT MOST 1048576: true; the input reads as it did. -/
def matchingsMostUptoRow : OpenClaim := { program := "ytkhnohnkcdcajaa", sum := "b9337eb6fcdcd84a0996437c8fae4847d8e6356af033b436913fb5d252ab7e24", func := "salesroom/salesroomlaw08.MatchingsMost", spec := "matchingsMost", unfollowed := true, recurses := true, apart := false, narrowed := true }
def MatchingsMostUptoSaid : Prop := matchingsMostUptoRow.holds Try.pinned (OpenSpec.upto matchingsMostSpec)

/-- 'salesroomlaw08.MatchingsAll', WHERE WHAT IT READS IS OF BULK AT MOST 1048576: true; the input reads as it did. -/
def matchingsAllUptoRow : OpenClaim := { program := "ytkhnohnkcdcajaa", sum := "b9337eb6fcdcd84a0996437c8fae4847d8e6356af033b436913fb5d252ab7e24", func := "salesroom/salesroomlaw08.MatchingsAll", spec := "matchingsAll", unfollowed := true, recurses := true, apart := false, narrowed := true }
def MatchingsAllUptoSaid : Prop := matchingsAllUptoRow.holds Try.pinned (OpenSpec.upto matchingsAllSpec)

/-- 'salesroomlaw08.MatchingsAhead', WHERE WHAT IT READS IS OF BULK AT MOST 1048576: true; the input reads as it did. -/
def matchingsAheadUptoRow : OpenClaim := { program := "ytkhnohnkcdcajaa", sum := "b9337eb6fcdcd84a0996437c8fae4847d8e6356af033b436913fb5d252ab7e24", func := "salesroom/salesroomlaw08.MatchingsAhead", spec := "matchingsAhead", unfollowed := true, recurses := true, apart := false, narrowed := true }
def MatchingsAheadUptoSaid : Prop := matchingsAheadUptoRow.holds Try.pinned (OpenSpec.upto matchingsAheadSpec)

/-- 'salesroomlaw08.MatchingsLess', WHERE WHAT IT READS IS OF BULK AT MOST 1048576: true; the input reads as it did. -/
def matchingsLessUptoRow : OpenClaim := { program := "ytkhnohnkcdcajaa", sum := "b9337eb6fcdcd84a0996437c8fae4847d8e6356af033b436913fb5d252ab7e24", func := "salesroom/salesroomlaw08.MatchingsLess", spec := "matchingsLess", unfollowed := true, recurses := true, apart := false, narrowed := true }
def MatchingsLessUptoSaid : Prop := matchingsLessUptoRow.holds Try.pinned (OpenSpec.upto matchingsLessSpec)

/-- 'salesroomlaw08.MatchingsApart', WHERE WHAT IT READS IS OF BULK AT MOST 1048576: true; the input reads as it did. -/
def matchingsApartUptoRow : OpenClaim := { program := "ytkhnohnkcdcajaa", sum := "b9337eb6fcdcd84a0996437c8fae4847d8e6356af033b436913fb5d252ab7e24", func := "salesroom/salesroomlaw08.MatchingsApart", spec := "matchingsApart", unfollowed := true, recurses := true, apart := false, narrowed := true }
def MatchingsApartUptoSaid : Prop := matchingsApartUptoRow.holds Try.pinned (OpenSpec.upto matchingsApartSpec)

/-- 'salesroomlaw08.MatchingsTurned', WHERE WHAT IT READS IS OF BULK AT MOST 1048576: true; the input reads as it did. -/
def matchingsTurnedUptoRow : OpenClaim := { program := "ytkhnohnkcdcajaa", sum := "b9337eb6fcdcd84a0996437c8fae4847d8e6356af033b436913fb5d252ab7e24", func := "salesroom/salesroomlaw08.MatchingsTurned", spec := "matchingsTurned", unfollowed := true, recurses := true, apart := false, narrowed := true }
def MatchingsTurnedUptoSaid : Prop := matchingsTurnedUptoRow.holds Try.pinned (OpenSpec.upto matchingsTurnedSpec)

/-- 'salesroomlaw09.HallsAll', WHERE WHAT IT READS IS OF BULK AT MOST 1048576: true; the input reads as it did. -/
def hallsAllUptoRow : OpenClaim := { program := "ytkhnohnkcdcajaa", sum := "b9337eb6fcdcd84a0996437c8fae4847d8e6356af033b436913fb5d252ab7e24", func := "salesroom/salesroomlaw09.HallsAll", spec := "hallsAll", unfollowed := true, recurses := true, apart := false, narrowed := true }
def HallsAllUptoSaid : Prop := hallsAllUptoRow.holds Try.pinned (OpenSpec.upto hallsAllSpec)

/-- 'salesroomlaw09.HallsPart', WHERE WHAT IT READS IS OF BULK AT MOST 1048576: true; the input reads as it did. -/
def hallsPartUptoRow : OpenClaim := { program := "ytkhnohnkcdcajaa", sum := "b9337eb6fcdcd84a0996437c8fae4847d8e6356af033b436913fb5d252ab7e24", func := "salesroom/salesroomlaw09.HallsPart", spec := "hallsPart", unfollowed := true, recurses := true, apart := false, narrowed := true }
def HallsPartUptoSaid : Prop := hallsPartUptoRow.holds Try.pinned (OpenSpec.upto hallsPartSpec)

/-- 'salesroomlaw09.HallsFirst', WHERE WHAT IT READS IS OF BULK AT MOST 1048576: true; the input reads as it did. -/
def hallsFirstUptoRow : OpenClaim := { program := "ytkhnohnkcdcajaa", sum := "b9337eb6fcdcd84a0996437c8fae4847d8e6356af033b436913fb5d252ab7e24", func := "salesroom/salesroomlaw09.HallsFirst", spec := "hallsFirst", unfollowed := true, recurses := true, apart := false, narrowed := true }
def HallsFirstUptoSaid : Prop := hallsFirstUptoRow.holds Try.pinned (OpenSpec.upto hallsFirstSpec)

/-- 'salesroomlaw09.HallsMore', WHERE WHAT IT READS IS OF BULK AT MOST 1048576: true; the input reads as it did. -/
def hallsMoreUptoRow : OpenClaim := { program := "ytkhnohnkcdcajaa", sum := "b9337eb6fcdcd84a0996437c8fae4847d8e6356af033b436913fb5d252ab7e24", func := "salesroom/salesroomlaw09.HallsMore", spec := "hallsMore", unfollowed := true, recurses := true, apart := false, narrowed := true }
def HallsMoreUptoSaid : Prop := hallsMoreUptoRow.holds Try.pinned (OpenSpec.upto hallsMoreSpec)

/-- 'salesroomlaw09.HallsNamed', WHERE WHAT IT READS IS OF BULK AT MOST 1048576: true; the input reads as it did. -/
def hallsNamedUptoRow : OpenClaim := { program := "ytkhnohnkcdcajaa", sum := "b9337eb6fcdcd84a0996437c8fae4847d8e6356af033b436913fb5d252ab7e24", func := "salesroom/salesroomlaw09.HallsNamed", spec := "hallsNamed", unfollowed := true, recurses := true, apart := false, narrowed := true }
def HallsNamedUptoSaid : Prop := hallsNamedUptoRow.holds Try.pinned (OpenSpec.upto hallsNamedSpec)

/-- 'salesroomlaw09.HallsSame', WHERE WHAT IT READS IS OF BULK AT MOST 1048576: true; the input reads as it did. -/
def hallsSameUptoRow : OpenClaim := { program := "ytkhnohnkcdcajaa", sum := "b9337eb6fcdcd84a0996437c8fae4847d8e6356af033b436913fb5d252ab7e24", func := "salesroom/salesroomlaw09.HallsSame", spec := "hallsSame", unfollowed := true, recurses := true, apart := false, narrowed := true }
def HallsSameUptoSaid : Prop := hallsSameUptoRow.holds Try.pinned (OpenSpec.upto hallsSameSpec)

end Rows
end Go.Proofs.Ytkhnohnkcdcajaa
