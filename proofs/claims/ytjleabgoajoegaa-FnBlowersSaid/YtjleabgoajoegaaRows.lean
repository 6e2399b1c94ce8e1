/-
  No cell of these rows narrows 'for every input' (looked for: loops, veiled, ifaces, maps, wideKeys, modest, calm, conditions, laid).
  DERIVED. THE GIVEN ROWS OF THIS SEAT. 12 by the template 'for every input the law returns true; each argument reads behind the call as it read before'; 0 by the template 'total and deterministic' (their statements: YtjleabgoajoegaaTotals.lean).
  GIVEN WITH THE SEED: the statements are not yours to turn. If you find one false, say at which input.
  Laid BY PROGRAM, IN A SANDBOX (cutbox-rows.mjs): the forced cells as the released guide's own fill.sh prints them over the translation d8feca9faaee039b… (all of the seat's roots in one cut). By AI agents, Wed Nov 11 2026. No macro, syntax, notation, axiom, sorry.
-/
import Derived.Test.YtjleabgoajoegaaChecked
import GoSem.Claim
import GoSem.ClaimJoined
import GoSem.ClaimMapViews
import Derived.JoinedTies
import Derived.KernelRfl
namespace Go.Proofs.Ytjleabgoajoegaa
/- THE CELL 'sum', in the pinned program and in every row, IS THE sha256 OF THE DUMP (.gsa) THAT YtjleabgoajoegaaProg.lean LOADS. Nothing in Lean hashes anything: it is a label: what it is worth is what the hold of that sum in a sandbox is worth. -/
noncomputable def Try.pinned : Pinned := { name := "ytjleabgoajoegaa", sum := "d8feca9faaee039bd141faa2148d108e6e0b59279ee71a993337358fe8465c01", checked := Try.checked }
namespace Rows
def none {H : Type} : Left H := { results := [], args := [] }

/-- 'laws.FnExactValidNeeds': WHATEVER THE INPUT: true; the input reads as it did. -/
def fnExactValidNeedsSpec : ChangeSpec := { name := "fnExactValidNeeds", fn := fun _ => fun
  | [d] => { results := [.lit (.bool true)], args := [d] }
  | _ => none }
def fnExactValidNeedsRow : OpenClaim := { program := "ytjleabgoajoegaa", sum := "d8feca9faaee039bd141faa2148d108e6e0b59279ee71a993337358fe8465c01", func := "loop.example/g01046/laws.FnExactValidNeeds", spec := "fnExactValidNeeds", unfollowed := true, recurses := true, apart := false }
def FnExactValidNeedsSaid : Prop := fnExactValidNeedsRow.holds Try.pinned (OpenSpec.ofChange fnExactValidNeedsSpec)

/-- ITS FALSE NEIGHBOUR: 'it returns false'. Refute it at one input. -/
def fnExactValidNeedsWrong : ChangeSpec := { name := "fnExactValidNeeds", fn := fun _ => fun
  | [d] => { results := [.lit (.bool false)], args := [d] }
  | _ => none }
def FnExactValidNeedsWrongFalsely : Prop := fnExactValidNeedsRow.holds Try.pinned (OpenSpec.ofChange fnExactValidNeedsWrong)

/-- 'laws.FnExactValidBlowers': WHATEVER THE INPUT: true; the input reads as it did. -/
def fnExactValidBlowersSpec : ChangeSpec := { name := "fnExactValidBlowers", fn := fun _ => fun
  | [d] => { results := [.lit (.bool true)], args := [d] }
  | _ => none }
def fnExactValidBlowersRow : OpenClaim := { program := "ytjleabgoajoegaa", sum := "d8feca9faaee039bd141faa2148d108e6e0b59279ee71a993337358fe8465c01", func := "loop.example/g01046/laws.FnExactValidBlowers", spec := "fnExactValidBlowers", unfollowed := true, recurses := true, apart := false }
def FnExactValidBlowersSaid : Prop := fnExactValidBlowersRow.holds Try.pinned (OpenSpec.ofChange fnExactValidBlowersSpec)

/-- ITS FALSE NEIGHBOUR: 'it returns false'. Refute it at one input. -/
def fnExactValidBlowersWrong : ChangeSpec := { name := "fnExactValidBlowers", fn := fun _ => fun
  | [d] => { results := [.lit (.bool false)], args := [d] }
  | _ => none }
def FnExactValidBlowersWrongFalsely : Prop := fnExactValidBlowersRow.holds Try.pinned (OpenSpec.ofChange fnExactValidBlowersWrong)

/-- 'laws.FnExactPowerOf': WHATEVER THE INPUT: true; the input reads as it did. -/
def fnExactPowerOfSpec : ChangeSpec := { name := "fnExactPowerOf", fn := fun _ => fun
  | [d1, d2] => { results := [.lit (.bool true)], args := [d1, d2] }
  | _ => none }
def fnExactPowerOfRow : OpenClaim := { program := "ytjleabgoajoegaa", sum := "d8feca9faaee039bd141faa2148d108e6e0b59279ee71a993337358fe8465c01", func := "loop.example/g01046/laws.FnExactPowerOf", spec := "fnExactPowerOf", unfollowed := true, recurses := true, apart := false }
def FnExactPowerOfSaid : Prop := fnExactPowerOfRow.holds Try.pinned (OpenSpec.ofChange fnExactPowerOfSpec)

/-- ITS FALSE NEIGHBOUR: 'it returns false'. Refute it at one input. -/
def fnExactPowerOfWrong : ChangeSpec := { name := "fnExactPowerOf", fn := fun _ => fun
  | [d1, d2] => { results := [.lit (.bool false)], args := [d1, d2] }
  | _ => none }
def FnExactPowerOfWrongFalsely : Prop := fnExactPowerOfRow.holds Try.pinned (OpenSpec.ofChange fnExactPowerOfWrong)

/-- 'laws.FnExactCheapestHour': WHATEVER THE INPUT: true; the input reads as it did. -/
def fnExactCheapestHourSpec : ChangeSpec := { name := "fnExactCheapestHour", fn := fun _ => fun
  | [d1, d2] => { results := [.lit (.bool true)], args := [d1, d2] }
  | _ => none }
def fnExactCheapestHourRow : OpenClaim := { program := "ytjleabgoajoegaa", sum := "d8feca9faaee039bd141faa2148d108e6e0b59279ee71a993337358fe8465c01", func := "loop.example/g01046/laws.FnExactCheapestHour", spec := "fnExactCheapestHour", unfollowed := true, recurses := true, apart := false }
def FnExactCheapestHourSaid : Prop := fnExactCheapestHourRow.holds Try.pinned (OpenSpec.ofChange fnExactCheapestHourSpec)

/-- ITS FALSE NEIGHBOUR: 'it returns false'. Refute it at one input. -/
def fnExactCheapestHourWrong : ChangeSpec := { name := "fnExactCheapestHour", fn := fun _ => fun
  | [d1, d2] => { results := [.lit (.bool false)], args := [d1, d2] }
  | _ => none }
def FnExactCheapestHourWrongFalsely : Prop := fnExactCheapestHourRow.holds Try.pinned (OpenSpec.ofChange fnExactCheapestHourWrong)

/-- 'laws.FnExactStartsOfBlower': WHATEVER THE INPUT: true; the input reads as it did. -/
def fnExactStartsOfBlowerSpec : ChangeSpec := { name := "fnExactStartsOfBlower", fn := fun _ => fun
  | [d1, d2, d3] => { results := [.lit (.bool true)], args := [d1, d2, d3] }
  | _ => none }
def fnExactStartsOfBlowerRow : OpenClaim := { program := "ytjleabgoajoegaa", sum := "d8feca9faaee039bd141faa2148d108e6e0b59279ee71a993337358fe8465c01", func := "loop.example/g01046/laws.FnExactStartsOfBlower", spec := "fnExactStartsOfBlower", unfollowed := true, recurses := true, apart := false }
def FnExactStartsOfBlowerSaid : Prop := fnExactStartsOfBlowerRow.holds Try.pinned (OpenSpec.ofChange fnExactStartsOfBlowerSpec)

/-- ITS FALSE NEIGHBOUR: 'it returns false'. Refute it at one input. -/
def fnExactStartsOfBlowerWrong : ChangeSpec := { name := "fnExactStartsOfBlower", fn := fun _ => fun
  | [d1, d2, d3] => { results := [.lit (.bool false)], args := [d1, d2, d3] }
  | _ => none }
def FnExactStartsOfBlowerWrongFalsely : Prop := fnExactStartsOfBlowerRow.holds Try.pinned (OpenSpec.ofChange fnExactStartsOfBlowerWrong)

/-- 'laws.FnExactHoursOfBlower': WHATEVER THE INPUT: true; the input reads as it did. -/
def fnExactHoursOfBlowerSpec : ChangeSpec := { name := "fnExactHoursOfBlower", fn := fun _ => fun
  | [d1, d2, d3] => { results := [.lit (.bool true)], args := [d1, d2, d3] }
  | _ => none }
def fnExactHoursOfBlowerRow : OpenClaim := { program := "ytjleabgoajoegaa", sum := "d8feca9faaee039bd141faa2148d108e6e0b59279ee71a993337358fe8465c01", func := "loop.example/g01046/laws.FnExactHoursOfBlower", spec := "fnExactHoursOfBlower", unfollowed := true, recurses := true, apart := false }
def FnExactHoursOfBlowerSaid : Prop := fnExactHoursOfBlowerRow.holds Try.pinned (OpenSpec.ofChange fnExactHoursOfBlowerSpec)

/-- ITS FALSE NEIGHBOUR: 'it returns false'. Refute it at one input. -/
def fnExactHoursOfBlowerWrong : ChangeSpec := { name := "fnExactHoursOfBlower", fn := fun _ => fun
  | [d1, d2, d3] => { results := [.lit (.bool false)], args := [d1, d2, d3] }
  | _ => none }
def FnExactHoursOfBlowerWrongFalsely : Prop := fnExactHoursOfBlowerRow.holds Try.pinned (OpenSpec.ofChange fnExactHoursOfBlowerWrong)

/-- 'laws.FnExactMeetsNeeds': WHATEVER THE INPUT: true; the input reads as it did. -/
def fnExactMeetsNeedsSpec : ChangeSpec := { name := "fnExactMeetsNeeds", fn := fun _ => fun
  | [d1, d2, d3] => { results := [.lit (.bool true)], args := [d1, d2, d3] }
  | _ => none }
def fnExactMeetsNeedsRow : OpenClaim := { program := "ytjleabgoajoegaa", sum := "d8feca9faaee039bd141faa2148d108e6e0b59279ee71a993337358fe8465c01", func := "loop.example/g01046/laws.FnExactMeetsNeeds", spec := "fnExactMeetsNeeds", unfollowed := true, recurses := true, apart := false }
def FnExactMeetsNeedsSaid : Prop := fnExactMeetsNeedsRow.holds Try.pinned (OpenSpec.ofChange fnExactMeetsNeedsSpec)

/-- ITS FALSE NEIGHBOUR: 'it returns false'. Refute it at one input. -/
def fnExactMeetsNeedsWrong : ChangeSpec := { name := "fnExactMeetsNeeds", fn := fun _ => fun
  | [d1, d2, d3] => { results := [.lit (.bool false)], args := [d1, d2, d3] }
  | _ => none }
def FnExactMeetsNeedsWrongFalsely : Prop := fnExactMeetsNeedsRow.holds Try.pinned (OpenSpec.ofChange fnExactMeetsNeedsWrong)

/-- 'laws.FnExactCostOfDay': WHATEVER THE INPUT: true; the input reads as it did. -/
def fnExactCostOfDaySpec : ChangeSpec := { name := "fnExactCostOfDay", fn := fun _ => fun
  | [d1, d2] => { results := [.lit (.bool true)], args := [d1, d2] }
  | _ => none }
def fnExactCostOfDayRow : OpenClaim := { program := "ytjleabgoajoegaa", sum := "d8feca9faaee039bd141faa2148d108e6e0b59279ee71a993337358fe8465c01", func := "loop.example/g01046/laws.FnExactCostOfDay", spec := "fnExactCostOfDay", unfollowed := true, recurses := true, apart := false }
def FnExactCostOfDaySaid : Prop := fnExactCostOfDayRow.holds Try.pinned (OpenSpec.ofChange fnExactCostOfDaySpec)

/-- ITS FALSE NEIGHBOUR: 'it returns false'. Refute it at one input. -/
def fnExactCostOfDayWrong : ChangeSpec := { name := "fnExactCostOfDay", fn := fun _ => fun
  | [d1, d2] => { results := [.lit (.bool false)], args := [d1, d2] }
  | _ => none }
def FnExactCostOfDayWrongFalsely : Prop := fnExactCostOfDayRow.holds Try.pinned (OpenSpec.ofChange fnExactCostOfDayWrong)

/-- 'laws.FnExactLongestRun': WHATEVER THE INPUT: true; the input reads as it did. -/
def fnExactLongestRunSpec : ChangeSpec := { name := "fnExactLongestRun", fn := fun _ => fun
  | [d1, d2, d3] => { results := [.lit (.bool true)], args := [d1, d2, d3] }
  | _ => none }
def fnExactLongestRunRow : OpenClaim := { program := "ytjleabgoajoegaa", sum := "d8feca9faaee039bd141faa2148d108e6e0b59279ee71a993337358fe8465c01", func := "loop.example/g01046/laws.FnExactLongestRun", spec := "fnExactLongestRun", unfollowed := true, recurses := true, apart := false }
def FnExactLongestRunSaid : Prop := fnExactLongestRunRow.holds Try.pinned (OpenSpec.ofChange fnExactLongestRunSpec)

/-- ITS FALSE NEIGHBOUR: 'it returns false'. Refute it at one input. -/
def fnExactLongestRunWrong : ChangeSpec := { name := "fnExactLongestRun", fn := fun _ => fun
  | [d1, d2, d3] => { results := [.lit (.bool false)], args := [d1, d2, d3] }
  | _ => none }
def FnExactLongestRunWrongFalsely : Prop := fnExactLongestRunRow.holds Try.pinned (OpenSpec.ofChange fnExactLongestRunWrong)

/-- 'laws.FnExactBestDay': WHATEVER THE INPUT: true; the input reads as it did. -/
def fnExactBestDaySpec : ChangeSpec := { name := "fnExactBestDay", fn := fun _ => fun
  | [d1, d2] => { results := [.lit (.bool true)], args := [d1, d2] }
  | _ => none }
def fnExactBestDayRow : OpenClaim := { program := "ytjleabgoajoegaa", sum := "d8feca9faaee039bd141faa2148d108e6e0b59279ee71a993337358fe8465c01", func := "loop.example/g01046/laws.FnExactBestDay", spec := "fnExactBestDay", unfollowed := true, recurses := true, apart := false }
def FnExactBestDaySaid : Prop := fnExactBestDayRow.holds Try.pinned (OpenSpec.ofChange fnExactBestDaySpec)

/-- ITS FALSE NEIGHBOUR: 'it returns false'. Refute it at one input. -/
def fnExactBestDayWrong : ChangeSpec := { name := "fnExactBestDay", fn := fun _ => fun
  | [d1, d2] => { results := [.lit (.bool false)], args := [d1, d2] }
  | _ => none }
def FnExactBestDayWrongFalsely : Prop := fnExactBestDayRow.holds Try.pinned (OpenSpec.ofChange fnExactBestDayWrong)

/-- 'laws.FnBlowerRuns': WHATEVER THE INPUT: true; the input reads as it did. -/
def fnBlowerRunsSpec : ChangeSpec := { name := "fnBlowerRuns", fn := fun _ => fun
  | [d] => { results := [.lit (.bool true)], args := [d] }
  | _ => none }
def fnBlowerRunsRow : OpenClaim := { program := "ytjleabgoajoegaa", sum := "d8feca9faaee039bd141faa2148d108e6e0b59279ee71a993337358fe8465c01", func := "loop.example/g01046/laws.FnBlowerRuns", spec := "fnBlowerRuns", unfollowed := true, recurses := true, apart := false }
def FnBlowerRunsSaid : Prop := fnBlowerRunsRow.holds Try.pinned (OpenSpec.ofChange fnBlowerRunsSpec)

/-- ITS FALSE NEIGHBOUR: 'it returns false'. Refute it at one input. -/
def fnBlowerRunsWrong : ChangeSpec := { name := "fnBlowerRuns", fn := fun _ => fun
  | [d] => { results := [.lit (.bool false)], args := [d] }
  | _ => none }
def FnBlowerRunsWrongFalsely : Prop := fnBlowerRunsRow.holds Try.pinned (OpenSpec.ofChange fnBlowerRunsWrong)

/-- 'laws.FnBlowers': WHATEVER THE INPUT: true; the input reads as it did. -/
def fnBlowersSpec : ChangeSpec := { name := "fnBlowers", fn := fun _ => fun
  | [d] => { results := [.lit (.bool true)], args := [d] }
  | _ => none }
def fnBlowersRow : OpenClaim := { program := "ytjleabgoajoegaa", sum := "d8feca9faaee039bd141faa2148d108e6e0b59279ee71a993337358fe8465c01", func := "loop.example/g01046/laws.FnBlowers", spec := "fnBlowers", unfollowed := true, recurses := true, apart := false }
def FnBlowersSaid : Prop := fnBlowersRow.holds Try.pinned (OpenSpec.ofChange fnBlowersSpec)

/-- ITS FALSE NEIGHBOUR: 'it returns false'. Refute it at one input. -/
def fnBlowersWrong : ChangeSpec := { name := "fnBlowers", fn := fun _ => fun
  | [d] => { results := [.lit (.bool false)], args := [d] }
  | _ => none }
def FnBlowersWrongFalsely : Prop := fnBlowersRow.holds Try.pinned (OpenSpec.ofChange fnBlowersWrong)

/- THE SECOND FORM. 'bulk': how many values and letters a reading holds, each counted each time it is reached (what is shared counts as often as it is met; a slice's spare places count too). A statement '..UptoSaid' is the law's where the arguments, and the package variables that the reading takes, are together of bulk at most 1048576: NARROWER than '..Said'. Prove '..Said' where nothing that the law and all that it calls make is longer than what came in: it says more and counts as full. Else prove '..UptoSaid'. A law counts once. -/
mutual
def uptoBulk {H : Type} : DataW H → Nat
  | .lit (.string bytes) => bytes.length + 1
  | .lit _ => 1
  | .nil => 1
  | .ptr d => uptoBulk d + 1
  | .slice elems spare => uptoBulkAll elems + uptoBulkAll spare + 1
  | .agg parts => uptoBulkAll parts + 1
  | .iface _ d => uptoBulk d + 1
  | .map entries => uptoBulkEntries entries + 1
  | .held _ => 1
def uptoBulkAll {H : Type} : List (DataW H) → Nat
  | [] => 0
  | d :: r => uptoBulk d + uptoBulkAll r
def uptoBulkEntries {H : Type} : List (Lit × DataW H) → Nat
  | [] => 0
  | x :: r => uptoBulkEntry x + uptoBulkEntries r
def uptoBulkEntry {H : Type} : Lit × DataW H → Nat
  | (.string bytes, d) => bytes.length + uptoBulk d + 1
  | (_, d) => uptoBulk d + 1
 end
def uptoSmall : (H : Type) → List (DataW H) → Bool := fun _ ds => decide (uptoBulkAll ds ≤ 1048576)
def OpenSpec.upto (s : _root_.Go.ChangeSpec) : _root_.Go.OpenSpec := { _root_.Go.OpenSpec.ofChange s with cond := some uptoSmall }

/-- 'laws.FnExactValidNeeds', WHERE WHAT IT READS IS OF BULK AT MOST 1048576: true; the input reads as it did. -/
def fnExactValidNeedsUptoRow : OpenClaim := { program := "ytjleabgoajoegaa", sum := "d8feca9faaee039bd141faa2148d108e6e0b59279ee71a993337358fe8465c01", func := "loop.example/g01046/laws.FnExactValidNeeds", spec := "fnExactValidNeeds", unfollowed := true, recurses := true, apart := false, narrowed := true }
def FnExactValidNeedsUptoSaid : Prop := fnExactValidNeedsUptoRow.holds Try.pinned (OpenSpec.upto fnExactValidNeedsSpec)

/-- 'laws.FnExactValidBlowers', WHERE WHAT IT READS IS OF BULK AT MOST 1048576: true; the input reads as it did. -/
def fnExactValidBlowersUptoRow : OpenClaim := { program := "ytjleabgoajoegaa", sum := "d8feca9faaee039bd141faa2148d108e6e0b59279ee71a993337358fe8465c01", func := "loop.example/g01046/laws.FnExactValidBlowers", spec := "fnExactValidBlowers", unfollowed := true, recurses := true, apart := false, narrowed := true }
def FnExactValidBlowersUptoSaid : Prop := fnExactValidBlowersUptoRow.holds Try.pinned (OpenSpec.upto fnExactValidBlowersSpec)

/-- 'laws.FnExactPowerOf', WHERE WHAT IT READS IS OF BULK AT MOST 1048576: true; the input reads as it did. -/
def fnExactPowerOfUptoRow : OpenClaim := { program := "ytjleabgoajoegaa", sum := "d8feca9faaee039bd141faa2148d108e6e0b59279ee71a993337358fe8465c01", func := "loop.example/g01046/laws.FnExactPowerOf", spec := "fnExactPowerOf", unfollowed := true, recurses := true, apart := false, narrowed := true }
def FnExactPowerOfUptoSaid : Prop := fnExactPowerOfUptoRow.holds Try.pinned (OpenSpec.upto fnExactPowerOfSpec)

/-- 'laws.FnExactCheapestHour', WHERE WHAT IT READS IS OF BULK AT MOST 1048576: true; the input reads as it did. -/
def fnExactCheapestHourUptoRow : OpenClaim := { program := "ytjleabgoajoegaa", sum := "d8feca9faaee039bd141faa2148d108e6e0b59279ee71a993337358fe8465c01", func := "loop.example/g01046/laws.FnExactCheapestHour", spec := "fnExactCheapestHour", unfollowed := true, recurses := true, apart := false, narrowed := true }
def FnExactCheapestHourUptoSaid : Prop := fnExactCheapestHourUptoRow.holds Try.pinned (OpenSpec.upto fnExactCheapestHourSpec)

/-- 'laws.FnExactStartsOfBlower', WHERE WHAT IT READS IS OF BULK AT MOST 1048576: true; the input reads as it did. -/
def fnExactStartsOfBlowerUptoRow : OpenClaim := { program := "ytjleabgoajoegaa", sum := "d8feca9faaee039bd141faa2148d108e6e0b59279ee71a993337358fe8465c01", func := "loop.example/g01046/laws.FnExactStartsOfBlower", spec := "fnExactStartsOfBlower", unfollowed := true, recurses := true, apart := false, narrowed := true }
def FnExactStartsOfBlowerUptoSaid : Prop := fnExactStartsOfBlowerUptoRow.holds Try.pinned (OpenSpec.upto fnExactStartsOfBlowerSpec)

/-- 'laws.FnExactHoursOfBlower', WHERE WHAT IT READS IS OF BULK AT MOST 1048576: true; the input reads as it did. -/
def fnExactHoursOfBlowerUptoRow : OpenClaim := { program := "ytjleabgoajoegaa", sum := "d8feca9faaee039bd141faa2148d108e6e0b59279ee71a993337358fe8465c01", func := "loop.example/g01046/laws.FnExactHoursOfBlower", spec := "fnExactHoursOfBlower", unfollowed := true, recurses := true, apart := false, narrowed := true }
def FnExactHoursOfBlowerUptoSaid : Prop := fnExactHoursOfBlowerUptoRow.holds Try.pinned (OpenSpec.upto fnExactHoursOfBlowerSpec)

/-- 'laws.FnExactMeetsNeeds', WHERE WHAT IT READS IS OF BULK AT MOST 1048576: true; the input reads as it did. -/
def fnExactMeetsNeedsUptoRow : OpenClaim := { program := "ytjleabgoajoegaa", sum := "d8feca9faaee039bd141faa2148d108e6e0b59279ee71a993337358fe8465c01", func := "loop.example/g01046/laws.FnExactMeetsNeeds", spec := "fnExactMeetsNeeds", unfollowed := true, recurses := true, apart := false, narrowed := true }
def FnExactMeetsNeedsUptoSaid : Prop := fnExactMeetsNeedsUptoRow.holds Try.pinned (OpenSpec.upto fnExactMeetsNeedsSpec)

/-- 'laws.FnExactCostOfDay', WHERE WHAT IT READS IS OF BULK AT MOST 1048576: true; the input reads as it did. -/
def fnExactCostOfDayUptoRow : OpenClaim := { program := "ytjleabgoajoegaa", sum := "d8feca9faaee039bd141faa2148d108e6e0b59279ee71a993337358fe8465c01", func := "loop.example/g01046/laws.FnExactCostOfDay", spec := "fnExactCostOfDay", unfollowed := true, recurses := true, apart := false, narrowed := true }
def FnExactCostOfDayUptoSaid : Prop := fnExactCostOfDayUptoRow.holds Try.pinned (OpenSpec.upto fnExactCostOfDaySpec)

/-- 'laws.FnExactLongestRun', WHERE WHAT IT READS IS OF BULK AT MOST 1048576: true; the input reads as it did. -/
def fnExactLongestRunUptoRow : OpenClaim := { program := "ytjleabgoajoegaa", sum := "d8feca9faaee039bd141faa2148d108e6e0b59279ee71a993337358fe8465c01", func := "loop.example/g01046/laws.FnExactLongestRun", spec := "fnExactLongestRun", unfollowed := true, recurses := true, apart := false, narrowed := true }
def FnExactLongestRunUptoSaid : Prop := fnExactLongestRunUptoRow.holds Try.pinned (OpenSpec.upto fnExactLongestRunSpec)

/-- 'laws.FnExactBestDay', WHERE WHAT IT READS IS OF BULK AT MOST 1048576: true; the input reads as it did. -/
def fnExactBestDayUptoRow : OpenClaim := { program := "ytjleabgoajoegaa", sum := "d8feca9faaee039bd141faa2148d108e6e0b59279ee71a993337358fe8465c01", func := "loop.example/g01046/laws.FnExactBestDay", spec := "fnExactBestDay", unfollowed := true, recurses := true, apart := false, narrowed := true }
def FnExactBestDayUptoSaid : Prop := fnExactBestDayUptoRow.holds Try.pinned (OpenSpec.upto fnExactBestDaySpec)

/-- 'laws.FnBlowerRuns', WHERE WHAT IT READS IS OF BULK AT MOST 1048576: true; the input reads as it did. -/
def fnBlowerRunsUptoRow : OpenClaim := { program := "ytjleabgoajoegaa", sum := "d8feca9faaee039bd141faa2148d108e6e0b59279ee71a993337358fe8465c01", func := "loop.example/g01046/laws.FnBlowerRuns", spec := "fnBlowerRuns", unfollowed := true, recurses := true, apart := false, narrowed := true }
def FnBlowerRunsUptoSaid : Prop := fnBlowerRunsUptoRow.holds Try.pinned (OpenSpec.upto fnBlowerRunsSpec)

/-- 'laws.FnBlowers', WHERE WHAT IT READS IS OF BULK AT MOST 1048576: true; the input reads as it did. -/
def fnBlowersUptoRow : OpenClaim := { program := "ytjleabgoajoegaa", sum := "d8feca9faaee039bd141faa2148d108e6e0b59279ee71a993337358fe8465c01", func := "loop.example/g01046/laws.FnBlowers", spec := "fnBlowers", unfollowed := true, recurses := true, apart := false, narrowed := true }
def FnBlowersUptoSaid : Prop := fnBlowersUptoRow.holds Try.pinned (OpenSpec.upto fnBlowersSpec)

end Rows
end Go.Proofs.Ytjleabgoajoegaa
