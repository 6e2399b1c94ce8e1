/-
  No cell of these rows narrows 'for every input' (looked for: loops, veiled, ifaces, maps, wideKeys, modest, calm, conditions, laid).
  DERIVED. THE GIVEN ROWS OF THIS SEAT. 11 by the template 'for every input the law returns true; each argument reads behind the call as it read before'; 0 by the template 'total and deterministic' (their statements: YthpijecjifmnbaaTotals.lean).
  GIVEN WITH THE SEED: the statements are not yours to turn. If you find one false, say at which input.
  Laid BY PROGRAM, IN A SANDBOX (cutbox-rows.mjs): the forced cells as the released guide's own fill.sh prints them over the translation 7aaea140eb0c0383… (all of the seat's roots in one cut). By AI agents, Wed Nov 11 2026. No macro, syntax, notation, axiom, sorry.
-/
import Derived.Test.YthpijecjifmnbaaChecked
import GoSem.Claim
import GoSem.ClaimJoined
import GoSem.ClaimMapViews
import Derived.JoinedTies
import Derived.KernelRfl
namespace Go.Proofs.Ythpijecjifmnbaa
/- THE CELL 'sum', in the pinned program and in every row, IS THE sha256 OF THE DUMP (.gsa) THAT YthpijecjifmnbaaProg.lean LOADS. Nothing in Lean hashes anything: it is a label: what it is worth is what the hold of that sum in a sandbox is worth. -/
noncomputable def Try.pinned : Pinned := { name := "ythpijecjifmnbaa", sum := "7aaea140eb0c03831086982ff672d1f37357d1a0f7aebe50d7477a35c6a39004", checked := Try.checked }
namespace Rows
def none {H : Type} : Left H := { results := [], args := [] }

/-- 'laws.FnExactDelayOfTrip': WHATEVER THE INPUT: true; the input reads as it did. -/
def fnExactDelayOfTripSpec : ChangeSpec := { name := "fnExactDelayOfTrip", fn := fun _ => fun
  | [d] => { results := [.lit (.bool true)], args := [d] }
  | _ => none }
def fnExactDelayOfTripRow : OpenClaim := { program := "ythpijecjifmnbaa", sum := "7aaea140eb0c03831086982ff672d1f37357d1a0f7aebe50d7477a35c6a39004", func := "loop.example/g01046/laws.FnExactDelayOfTrip", spec := "fnExactDelayOfTrip", apart := false }
def FnExactDelayOfTripSaid : Prop := fnExactDelayOfTripRow.holds Try.pinned (OpenSpec.ofChange fnExactDelayOfTripSpec)

/-- ITS FALSE NEIGHBOUR: 'it returns false'. Refute it at one input. -/
def fnExactDelayOfTripWrong : ChangeSpec := { name := "fnExactDelayOfTrip", fn := fun _ => fun
  | [d] => { results := [.lit (.bool false)], args := [d] }
  | _ => none }
def FnExactDelayOfTripWrongFalsely : Prop := fnExactDelayOfTripRow.holds Try.pinned (OpenSpec.ofChange fnExactDelayOfTripWrong)

/-- 'laws.FnExactValidTrips': WHATEVER THE INPUT: true; the input reads as it did. -/
def fnExactValidTripsSpec : ChangeSpec := { name := "fnExactValidTrips", fn := fun _ => fun
  | [d] => { results := [.lit (.bool true)], args := [d] }
  | _ => none }
def fnExactValidTripsRow : OpenClaim := { program := "ythpijecjifmnbaa", sum := "7aaea140eb0c03831086982ff672d1f37357d1a0f7aebe50d7477a35c6a39004", func := "loop.example/g01046/laws.FnExactValidTrips", spec := "fnExactValidTrips", unfollowed := true, recurses := true, apart := false }
def FnExactValidTripsSaid : Prop := fnExactValidTripsRow.holds Try.pinned (OpenSpec.ofChange fnExactValidTripsSpec)

/-- ITS FALSE NEIGHBOUR: 'it returns false'. Refute it at one input. -/
def fnExactValidTripsWrong : ChangeSpec := { name := "fnExactValidTrips", fn := fun _ => fun
  | [d] => { results := [.lit (.bool false)], args := [d] }
  | _ => none }
def FnExactValidTripsWrongFalsely : Prop := fnExactValidTripsRow.holds Try.pinned (OpenSpec.ofChange fnExactValidTripsWrong)

/-- 'laws.FnExactLongestLate': WHATEVER THE INPUT: true; the input reads as it did. -/
def fnExactLongestLateSpec : ChangeSpec := { name := "fnExactLongestLate", fn := fun _ => fun
  | [d1, d2] => { results := [.lit (.bool true)], args := [d1, d2] }
  | _ => none }
def fnExactLongestLateRow : OpenClaim := { program := "ythpijecjifmnbaa", sum := "7aaea140eb0c03831086982ff672d1f37357d1a0f7aebe50d7477a35c6a39004", func := "loop.example/g01046/laws.FnExactLongestLate", spec := "fnExactLongestLate", unfollowed := true, recurses := true, apart := false }
def FnExactLongestLateSaid : Prop := fnExactLongestLateRow.holds Try.pinned (OpenSpec.ofChange fnExactLongestLateSpec)

/-- ITS FALSE NEIGHBOUR: 'it returns false'. Refute it at one input. -/
def fnExactLongestLateWrong : ChangeSpec := { name := "fnExactLongestLate", fn := fun _ => fun
  | [d1, d2] => { results := [.lit (.bool false)], args := [d1, d2] }
  | _ => none }
def FnExactLongestLateWrongFalsely : Prop := fnExactLongestLateRow.holds Try.pinned (OpenSpec.ofChange fnExactLongestLateWrong)

/-- 'laws.FnExactWorstStation': WHATEVER THE INPUT: true; the input reads as it did. -/
def fnExactWorstStationSpec : ChangeSpec := { name := "fnExactWorstStation", fn := fun _ => fun
  | [d] => { results := [.lit (.bool true)], args := [d] }
  | _ => none }
def fnExactWorstStationRow : OpenClaim := { program := "ythpijecjifmnbaa", sum := "7aaea140eb0c03831086982ff672d1f37357d1a0f7aebe50d7477a35c6a39004", func := "loop.example/g01046/laws.FnExactWorstStation", spec := "fnExactWorstStation", unfollowed := true, recurses := true, apart := false }
def FnExactWorstStationSaid : Prop := fnExactWorstStationRow.holds Try.pinned (OpenSpec.ofChange fnExactWorstStationSpec)

/-- ITS FALSE NEIGHBOUR: 'it returns false'. Refute it at one input. -/
def fnExactWorstStationWrong : ChangeSpec := { name := "fnExactWorstStation", fn := fun _ => fun
  | [d] => { results := [.lit (.bool false)], args := [d] }
  | _ => none }
def FnExactWorstStationWrongFalsely : Prop := fnExactWorstStationRow.holds Try.pinned (OpenSpec.ofChange fnExactWorstStationWrong)

/-- 'laws.FnExactDelayClasses': WHATEVER THE INPUT: true; the input reads as it did. -/
def fnExactDelayClassesSpec : ChangeSpec := { name := "fnExactDelayClasses", fn := fun _ => fun
  | [d1, d2, d3] => { results := [.lit (.bool true)], args := [d1, d2, d3] }
  | _ => none }
def fnExactDelayClassesRow : OpenClaim := { program := "ythpijecjifmnbaa", sum := "7aaea140eb0c03831086982ff672d1f37357d1a0f7aebe50d7477a35c6a39004", func := "loop.example/g01046/laws.FnExactDelayClasses", spec := "fnExactDelayClasses", unfollowed := true, recurses := true, apart := false }
def FnExactDelayClassesSaid : Prop := fnExactDelayClassesRow.holds Try.pinned (OpenSpec.ofChange fnExactDelayClassesSpec)

/-- ITS FALSE NEIGHBOUR: 'it returns false'. Refute it at one input. -/
def fnExactDelayClassesWrong : ChangeSpec := { name := "fnExactDelayClasses", fn := fun _ => fun
  | [d1, d2, d3] => { results := [.lit (.bool false)], args := [d1, d2, d3] }
  | _ => none }
def FnExactDelayClassesWrongFalsely : Prop := fnExactDelayClassesRow.holds Try.pinned (OpenSpec.ofChange fnExactDelayClassesWrong)

/-- 'laws.FnExactMovingDelays': WHATEVER THE INPUT: true; the input reads as it did. -/
def fnExactMovingDelaysSpec : ChangeSpec := { name := "fnExactMovingDelays", fn := fun _ => fun
  | [d1, d2] => { results := [.lit (.bool true)], args := [d1, d2] }
  | _ => none }
def fnExactMovingDelaysRow : OpenClaim := { program := "ythpijecjifmnbaa", sum := "7aaea140eb0c03831086982ff672d1f37357d1a0f7aebe50d7477a35c6a39004", func := "loop.example/g01046/laws.FnExactMovingDelays", spec := "fnExactMovingDelays", unfollowed := true, recurses := true, apart := false }
def FnExactMovingDelaysSaid : Prop := fnExactMovingDelaysRow.holds Try.pinned (OpenSpec.ofChange fnExactMovingDelaysSpec)

/-- ITS FALSE NEIGHBOUR: 'it returns false'. Refute it at one input. -/
def fnExactMovingDelaysWrong : ChangeSpec := { name := "fnExactMovingDelays", fn := fun _ => fun
  | [d1, d2] => { results := [.lit (.bool false)], args := [d1, d2] }
  | _ => none }
def FnExactMovingDelaysWrongFalsely : Prop := fnExactMovingDelaysRow.holds Try.pinned (OpenSpec.ofChange fnExactMovingDelaysWrong)

/-- 'laws.FnExactMeanDelay': WHATEVER THE INPUT: true; the input reads as it did. -/
def fnExactMeanDelaySpec : ChangeSpec := { name := "fnExactMeanDelay", fn := fun _ => fun
  | [d] => { results := [.lit (.bool true)], args := [d] }
  | _ => none }
def fnExactMeanDelayRow : OpenClaim := { program := "ythpijecjifmnbaa", sum := "7aaea140eb0c03831086982ff672d1f37357d1a0f7aebe50d7477a35c6a39004", func := "loop.example/g01046/laws.FnExactMeanDelay", spec := "fnExactMeanDelay", unfollowed := true, recurses := true, apart := false }
def FnExactMeanDelaySaid : Prop := fnExactMeanDelayRow.holds Try.pinned (OpenSpec.ofChange fnExactMeanDelaySpec)

/-- ITS FALSE NEIGHBOUR: 'it returns false'. Refute it at one input. -/
def fnExactMeanDelayWrong : ChangeSpec := { name := "fnExactMeanDelay", fn := fun _ => fun
  | [d] => { results := [.lit (.bool false)], args := [d] }
  | _ => none }
def FnExactMeanDelayWrongFalsely : Prop := fnExactMeanDelayRow.holds Try.pinned (OpenSpec.ofChange fnExactMeanDelayWrong)

/-- 'laws.FnExactSpreadOfDelays': WHATEVER THE INPUT: true; the input reads as it did. -/
def fnExactSpreadOfDelaysSpec : ChangeSpec := { name := "fnExactSpreadOfDelays", fn := fun _ => fun
  | [d] => { results := [.lit (.bool true)], args := [d] }
  | _ => none }
def fnExactSpreadOfDelaysRow : OpenClaim := { program := "ythpijecjifmnbaa", sum := "7aaea140eb0c03831086982ff672d1f37357d1a0f7aebe50d7477a35c6a39004", func := "loop.example/g01046/laws.FnExactSpreadOfDelays", spec := "fnExactSpreadOfDelays", unfollowed := true, recurses := true, apart := false }
def FnExactSpreadOfDelaysSaid : Prop := fnExactSpreadOfDelaysRow.holds Try.pinned (OpenSpec.ofChange fnExactSpreadOfDelaysSpec)

/-- ITS FALSE NEIGHBOUR: 'it returns false'. Refute it at one input. -/
def fnExactSpreadOfDelaysWrong : ChangeSpec := { name := "fnExactSpreadOfDelays", fn := fun _ => fun
  | [d] => { results := [.lit (.bool false)], args := [d] }
  | _ => none }
def FnExactSpreadOfDelaysWrongFalsely : Prop := fnExactSpreadOfDelaysRow.holds Try.pinned (OpenSpec.ofChange fnExactSpreadOfDelaysWrong)

/-- 'laws.FnExactShareWithin': WHATEVER THE INPUT: true; the input reads as it did. -/
def fnExactShareWithinSpec : ChangeSpec := { name := "fnExactShareWithin", fn := fun _ => fun
  | [d1, d2] => { results := [.lit (.bool true)], args := [d1, d2] }
  | _ => none }
def fnExactShareWithinRow : OpenClaim := { program := "ythpijecjifmnbaa", sum := "7aaea140eb0c03831086982ff672d1f37357d1a0f7aebe50d7477a35c6a39004", func := "loop.example/g01046/laws.FnExactShareWithin", spec := "fnExactShareWithin", unfollowed := true, recurses := true, apart := false }
def FnExactShareWithinSaid : Prop := fnExactShareWithinRow.holds Try.pinned (OpenSpec.ofChange fnExactShareWithinSpec)

/-- ITS FALSE NEIGHBOUR: 'it returns false'. Refute it at one input. -/
def fnExactShareWithinWrong : ChangeSpec := { name := "fnExactShareWithin", fn := fun _ => fun
  | [d1, d2] => { results := [.lit (.bool false)], args := [d1, d2] }
  | _ => none }
def FnExactShareWithinWrongFalsely : Prop := fnExactShareWithinRow.holds Try.pinned (OpenSpec.ofChange fnExactShareWithinWrong)

/-- 'laws.FnLateRuns': WHATEVER THE INPUT: true; the input reads as it did. -/
def fnLateRunsSpec : ChangeSpec := { name := "fnLateRuns", fn := fun _ => fun
  | [d] => { results := [.lit (.bool true)], args := [d] }
  | _ => none }
def fnLateRunsRow : OpenClaim := { program := "ythpijecjifmnbaa", sum := "7aaea140eb0c03831086982ff672d1f37357d1a0f7aebe50d7477a35c6a39004", func := "loop.example/g01046/laws.FnLateRuns", spec := "fnLateRuns", unfollowed := true, recurses := true, apart := false }
def FnLateRunsSaid : Prop := fnLateRunsRow.holds Try.pinned (OpenSpec.ofChange fnLateRunsSpec)

/-- ITS FALSE NEIGHBOUR: 'it returns false'. Refute it at one input. -/
def fnLateRunsWrong : ChangeSpec := { name := "fnLateRuns", fn := fun _ => fun
  | [d] => { results := [.lit (.bool false)], args := [d] }
  | _ => none }
def FnLateRunsWrongFalsely : Prop := fnLateRunsRow.holds Try.pinned (OpenSpec.ofChange fnLateRunsWrong)

/-- 'laws.FnExactDelayAtShare': WHATEVER THE INPUT: true; the input reads as it did. -/
def fnExactDelayAtShareSpec : ChangeSpec := { name := "fnExactDelayAtShare", fn := fun _ => fun
  | [d1, d2] => { results := [.lit (.bool true)], args := [d1, d2] }
  | _ => none }
def fnExactDelayAtShareRow : OpenClaim := { program := "ythpijecjifmnbaa", sum := "7aaea140eb0c03831086982ff672d1f37357d1a0f7aebe50d7477a35c6a39004", func := "loop.example/g01046/laws.FnExactDelayAtShare", spec := "fnExactDelayAtShare", unfollowed := true, recurses := true, apart := false }
def FnExactDelayAtShareSaid : Prop := fnExactDelayAtShareRow.holds Try.pinned (OpenSpec.ofChange fnExactDelayAtShareSpec)

/-- ITS FALSE NEIGHBOUR: 'it returns false'. Refute it at one input. -/
def fnExactDelayAtShareWrong : ChangeSpec := { name := "fnExactDelayAtShare", fn := fun _ => fun
  | [d1, d2] => { results := [.lit (.bool false)], args := [d1, d2] }
  | _ => none }
def FnExactDelayAtShareWrongFalsely : Prop := fnExactDelayAtShareRow.holds Try.pinned (OpenSpec.ofChange fnExactDelayAtShareWrong)

/- THE SECOND FORM. 'bulk': how many values and letters a reading holds, each counted each time it is reached (what is shared counts as often as it is met; a slice's spare places count too). A statement '..UptoSaid' is the law's where the arguments, and the package variables that the reading takes, are together of bulk at most 1048576: NARROWER than '..Said'. Prove '..Said' where nothing that the law and all that it calls make is longer than what came in: it says more and counts as full. Else prove '..UptoSaid'. A law counts once. -/
mutual
def uptoBulk {H : Type} : DataW H → Nat
  | .lit (.string bytes) => bytes.length + 1
  | .lit _ => 1
  | .nil => 1
  | .ptr d => uptoBulk d + 1
  | .slice elems spare => uptoBulkAll elems + uptoBulkAll spare + 1
  | .agg parts => uptoBulkAll parts + 1
  | .iface _ d => uptoBulk d + 1
  | .map entries => uptoBulkEntries entries + 1
  | .held _ => 1
def uptoBulkAll {H : Type} : List (DataW H) → Nat
  | [] => 0
  | d :: r => uptoBulk d + uptoBulkAll r
def uptoBulkEntries {H : Type} : List (Lit × DataW H) → Nat
  | [] => 0
  | x :: r => uptoBulkEntry x + uptoBulkEntries r
def uptoBulkEntry {H : Type} : Lit × DataW H → Nat
  | (.string bytes, d) => bytes.length + uptoBulk d + 1
  | (_, d) => uptoBulk d + 1
 end
def uptoSmall : (H : Type) → List (DataW H) → Bool := fun _ ds => decide (uptoBulkAll ds ≤ 1048576)
def OpenSpec.upto (s : _root_.Go.ChangeSpec) : _root_.Go.OpenSpec := { _root_.Go.OpenSpec.ofChange s with cond := some uptoSmall }

/-- 'laws.FnExactDelayOfTrip', WHERE WHAT IT READS IS OF BULK AT MOST 1048576: true; the input reads as it did. -/
def fnExactDelayOfTripUptoRow : OpenClaim := { program := "ythpijecjifmnbaa", sum := "7aaea140eb0c03831086982ff672d1f37357d1a0f7aebe50d7477a35c6a39004", func := "loop.example/g01046/laws.FnExactDelayOfTrip", spec := "fnExactDelayOfTrip", apart := false, narrowed := true }
def FnExactDelayOfTripUptoSaid : Prop := fnExactDelayOfTripUptoRow.holds Try.pinned (OpenSpec.upto fnExactDelayOfTripSpec)

/-- 'laws.FnExactValidTrips', WHERE WHAT IT READS IS OF BULK AT MOST 1048576: true; the input reads as it did. -/
def fnExactValidTripsUptoRow : OpenClaim := { program := "ythpijecjifmnbaa", sum := "7aaea140eb0c03831086982ff672d1f37357d1a0f7aebe50d7477a35c6a39004", func := "loop.example/g01046/laws.FnExactValidTrips", spec := "fnExactValidTrips", unfollowed := true, recurses := true, apart := false, narrowed := true }
def FnExactValidTripsUptoSaid : Prop := fnExactValidTripsUptoRow.holds Try.pinned (OpenSpec.upto fnExactValidTripsSpec)

/-- 'laws.FnExactLongestLate', WHERE WHAT IT READS IS OF BULK AT MOST 1048576: true; the input reads as it did. -/
def fnExactLongestLateUptoRow : OpenClaim := { program := "ythpijecjifmnbaa", sum := "7aaea140eb0c03831086982ff672d1f37357d1a0f7aebe50d7477a35c6a39004", func := "loop.example/g01046/laws.FnExactLongestLate", spec := "fnExactLongestLate", unfollowed := true, recurses := true, apart := false, narrowed := true }
def FnExactLongestLateUptoSaid : Prop := fnExactLongestLateUptoRow.holds Try.pinned (OpenSpec.upto fnExactLongestLateSpec)

/-- 'laws.FnExactWorstStation', WHERE WHAT IT READS IS OF BULK AT MOST 1048576: true; the input reads as it did. -/
def fnExactWorstStationUptoRow : OpenClaim := { program := "ythpijecjifmnbaa", sum := "7aaea140eb0c03831086982ff672d1f37357d1a0f7aebe50d7477a35c6a39004", func := "loop.example/g01046/laws.FnExactWorstStation", spec := "fnExactWorstStation", unfollowed := true, recurses := true, apart := false, narrowed := true }
def FnExactWorstStationUptoSaid : Prop := fnExactWorstStationUptoRow.holds Try.pinned (OpenSpec.upto fnExactWorstStationSpec)

/-- 'laws.FnExactDelayClasses', WHERE WHAT IT READS IS OF BULK AT MOST 1048576: true; the input reads as it did. -/
def fnExactDelayClassesUptoRow : OpenClaim := { program := "ythpijecjifmnbaa", sum := "7aaea140eb0c03831086982ff672d1f37357d1a0f7aebe50d7477a35c6a39004", func := "loop.example/g01046/laws.FnExactDelayClasses", spec := "fnExactDelayClasses", unfollowed := true, recurses := true, apart := false, narrowed := true }
def FnExactDelayClassesUptoSaid : Prop := fnExactDelayClassesUptoRow.holds Try.pinned (OpenSpec.upto fnExactDelayClassesSpec)

/-- 'laws.FnExactMovingDelays', WHERE WHAT IT READS IS OF BULK AT MOST 1048576: true; the input reads as it did. -/
def fnExactMovingDelaysUptoRow : OpenClaim := { program := "ythpijecjifmnbaa", sum := "7aaea140eb0c03831086982ff672d1f37357d1a0f7aebe50d7477a35c6a39004", func := "loop.example/g01046/laws.FnExactMovingDelays", spec := "fnExactMovingDelays", unfollowed := true, recurses := true, apart := false, narrowed := true }
def FnExactMovingDelaysUptoSaid : Prop := fnExactMovingDelaysUptoRow.holds Try.pinned (OpenSpec.upto fnExactMovingDelaysSpec)

/-- 'laws.FnExactMeanDelay', WHERE WHAT IT READS IS OF BULK AT MOST 1048576: true; the input reads as it did. -/
def fnExactMeanDelayUptoRow : OpenClaim := { program := "ythpijecjifmnbaa", sum := "7aaea140eb0c03831086982ff672d1f37357d1a0f7aebe50d7477a35c6a39004", func := "loop.example/g01046/laws.FnExactMeanDelay", spec := "fnExactMeanDelay", unfollowed := true, recurses := true, apart := false, narrowed := true }
def FnExactMeanDelayUptoSaid : Prop := fnExactMeanDelayUptoRow.holds Try.pinned (OpenSpec.upto fnExactMeanDelaySpec)

/-- 'laws.FnExactSpreadOfDelays', WHERE WHAT IT READS IS OF BULK AT MOST 1048576: true; the input reads as it did. -/
def fnExactSpreadOfDelaysUptoRow : OpenClaim := { program := "ythpijecjifmnbaa", sum := "7aaea140eb0c03831086982ff672d1f37357d1a0f7aebe50d7477a35c6a39004", func := "loop.example/g01046/laws.FnExactSpreadOfDelays", spec := "fnExactSpreadOfDelays", unfollowed := true, recurses := true, apart := false, narrowed := true }
def FnExactSpreadOfDelaysUptoSaid : Prop := fnExactSpreadOfDelaysUptoRow.holds Try.pinned (OpenSpec.upto fnExactSpreadOfDelaysSpec)

/-- 'laws.FnExactShareWithin', WHERE WHAT IT READS IS OF BULK AT MOST 1048576: true; the input reads as it did. -/
def fnExactShareWithinUptoRow : OpenClaim := { program := "ythpijecjifmnbaa", sum := "7aaea140eb0c03831086982ff672d1f37357d1a0f7aebe50d7477a35c6a39004", func := "loop.example/g01046/laws.FnExactShareWithin", spec := "fnExactShareWithin", unfollowed := true, recurses := true, apart := false, narrowed := true }
def FnExactShareWithinUptoSaid : Prop := fnExactShareWithinUptoRow.holds Try.pinned (OpenSpec.upto fnExactShareWithinSpec)

/-- 'laws.FnLateRuns', WHERE WHAT IT READS IS OF BULK AT MOST 1048576: true; the input reads as it did. -/
def fnLateRunsUptoRow : OpenClaim := { program := "ythpijecjifmnbaa", sum := "7aaea140eb0c03831086982ff672d1f37357d1a0f7aebe50d7477a35c6a39004", func := "loop.example/g01046/laws.FnLateRuns", spec := "fnLateRuns", unfollowed := true, recurses := true, apart := false, narrowed := true }
def FnLateRunsUptoSaid : Prop := fnLateRunsUptoRow.holds Try.pinned (OpenSpec.upto fnLateRunsSpec)

/-- 'laws.FnExactDelayAtShare', WHERE WHAT IT READS IS OF BULK AT MOST 1048576: true; the input reads as it did. -/
def fnExactDelayAtShareUptoRow : OpenClaim := { program := "ythpijecjifmnbaa", sum := "7aaea140eb0c03831086982ff672d1f37357d1a0f7aebe50d7477a35c6a39004", func := "loop.example/g01046/laws.FnExactDelayAtShare", spec := "fnExactDelayAtShare", unfollowed := true, recurses := true, apart := false, narrowed := true }
def FnExactDelayAtShareUptoSaid : Prop := fnExactDelayAtShareUptoRow.holds Try.pinned (OpenSpec.upto fnExactDelayAtShareSpec)

end Rows
end Go.Proofs.Ythpijecjifmnbaa
