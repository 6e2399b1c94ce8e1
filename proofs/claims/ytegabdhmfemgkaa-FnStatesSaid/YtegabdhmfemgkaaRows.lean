/-
  No cell of these rows narrows 'for every input' (looked for: loops, veiled, ifaces, maps, wideKeys, modest, calm, conditions, laid).
  DERIVED. THE GIVEN ROWS OF THIS SEAT. 13 by the template 'for every input the law returns true; each argument reads behind the call as it read before'; 0 by the template 'total and deterministic' (their statements: YtegabdhmfemgkaaTotals.lean).
  GIVEN WITH THE SEED: the statements are not yours to turn. If you find one false, say at which input.
  Laid BY PROGRAM, IN A SANDBOX (cutbox-rows.mjs): the forced cells as the released guide's own fill.sh prints them over the translation 97620dcca91231cf… (all of the seat's roots in one cut). By AI agents, Wed Nov 11 2026. No macro, syntax, notation, axiom, sorry.
-/
import Derived.Test.YtegabdhmfemgkaaChecked
import GoSem.Claim
import GoSem.ClaimJoined
import GoSem.ClaimMapViews
import Derived.JoinedTies
import Derived.KernelRfl
namespace Go.Proofs.Ytegabdhmfemgkaa
/- THE CELL 'sum', in the pinned program and in every row, IS THE sha256 OF THE DUMP (.gsa) THAT YtegabdhmfemgkaaProg.lean LOADS. Nothing in Lean hashes anything: it is a label: what it is worth is what the hold of that sum in a sandbox is worth. -/
noncomputable def Try.pinned : Pinned := { name := "ytegabdhmfemgkaa", sum := "97620dcca91231cf3e4d40dd4d1f79209af2ec473d9b97b8ad1f998648de82b2", checked := Try.checked }
namespace Rows
def none {H : Type} : Left H := { results := [], args := [] }

/-- 'laws.FnExactSetText': WHATEVER THE INPUT: true; the input reads as it did. -/
def fnExactSetTextSpec : ChangeSpec := { name := "fnExactSetText", fn := fun _ => fun
  | [d1, d2] => { results := [.lit (.bool true)], args := [d1, d2] }
  | _ => none }
def fnExactSetTextRow : OpenClaim := { program := "ytegabdhmfemgkaa", sum := "97620dcca91231cf3e4d40dd4d1f79209af2ec473d9b97b8ad1f998648de82b2", func := "loop.example/g01046/laws.FnExactSetText", spec := "fnExactSetText", unfollowed := true, recurses := true, plainKeys := false, apart := false }
def FnExactSetTextSaid : Prop := fnExactSetTextRow.holds Try.pinned (OpenSpec.ofChange fnExactSetTextSpec)

/-- ITS FALSE NEIGHBOUR: 'it returns false'. Refute it at one input. -/
def fnExactSetTextWrong : ChangeSpec := { name := "fnExactSetText", fn := fun _ => fun
  | [d1, d2] => { results := [.lit (.bool false)], args := [d1, d2] }
  | _ => none }
def FnExactSetTextWrongFalsely : Prop := fnExactSetTextRow.holds Try.pinned (OpenSpec.ofChange fnExactSetTextWrong)

/-- 'laws.FnAtOnce': WHATEVER THE INPUT: true; the input reads as it did. -/
def fnAtOnceSpec : ChangeSpec := { name := "fnAtOnce", fn := fun _ => fun
  | [d] => { results := [.lit (.bool true)], args := [d] }
  | _ => none }
def fnAtOnceRow : OpenClaim := { program := "ytegabdhmfemgkaa", sum := "97620dcca91231cf3e4d40dd4d1f79209af2ec473d9b97b8ad1f998648de82b2", func := "loop.example/g01046/laws.FnAtOnce", spec := "fnAtOnce", unfollowed := true, recurses := true, plainKeys := false, apart := false }
def FnAtOnceSaid : Prop := fnAtOnceRow.holds Try.pinned (OpenSpec.ofChange fnAtOnceSpec)

/-- ITS FALSE NEIGHBOUR: 'it returns false'. Refute it at one input. -/
def fnAtOnceWrong : ChangeSpec := { name := "fnAtOnce", fn := fun _ => fun
  | [d] => { results := [.lit (.bool false)], args := [d] }
  | _ => none }
def FnAtOnceWrongFalsely : Prop := fnAtOnceRow.holds Try.pinned (OpenSpec.ofChange fnAtOnceWrong)

/-- 'laws.FnExactValidTravels': WHATEVER THE INPUT: true; the input reads as it did. -/
def fnExactValidTravelsSpec : ChangeSpec := { name := "fnExactValidTravels", fn := fun _ => fun
  | [d1, d2] => { results := [.lit (.bool true)], args := [d1, d2] }
  | _ => none }
def fnExactValidTravelsRow : OpenClaim := { program := "ytegabdhmfemgkaa", sum := "97620dcca91231cf3e4d40dd4d1f79209af2ec473d9b97b8ad1f998648de82b2", func := "loop.example/g01046/laws.FnExactValidTravels", spec := "fnExactValidTravels", unfollowed := true, recurses := true, plainKeys := false, apart := false }
def FnExactValidTravelsSaid : Prop := fnExactValidTravelsRow.holds Try.pinned (OpenSpec.ofChange fnExactValidTravelsSpec)

/-- ITS FALSE NEIGHBOUR: 'it returns false'. Refute it at one input. -/
def fnExactValidTravelsWrong : ChangeSpec := { name := "fnExactValidTravels", fn := fun _ => fun
  | [d1, d2] => { results := [.lit (.bool false)], args := [d1, d2] }
  | _ => none }
def FnExactValidTravelsWrongFalsely : Prop := fnExactValidTravelsRow.holds Try.pinned (OpenSpec.ofChange fnExactValidTravelsWrong)

/-- 'laws.FnStates': WHATEVER THE INPUT: true; the input reads as it did. -/
def fnStatesSpec : ChangeSpec := { name := "fnStates", fn := fun _ => fun
  | [d1, d2] => { results := [.lit (.bool true)], args := [d1, d2] }
  | _ => none }
def fnStatesRow : OpenClaim := { program := "ytegabdhmfemgkaa", sum := "97620dcca91231cf3e4d40dd4d1f79209af2ec473d9b97b8ad1f998648de82b2", func := "loop.example/g01046/laws.FnStates", spec := "fnStates", unfollowed := true, recurses := true, plainKeys := false, apart := false }
def FnStatesSaid : Prop := fnStatesRow.holds Try.pinned (OpenSpec.ofChange fnStatesSpec)

/-- ITS FALSE NEIGHBOUR: 'it returns false'. Refute it at one input. -/
def fnStatesWrong : ChangeSpec := { name := "fnStates", fn := fun _ => fun
  | [d1, d2] => { results := [.lit (.bool false)], args := [d1, d2] }
  | _ => none }
def FnStatesWrongFalsely : Prop := fnStatesRow.holds Try.pinned (OpenSpec.ofChange fnStatesWrong)

/-- 'laws.FnExactValidPlaces': WHATEVER THE INPUT: true; the input reads as it did. -/
def fnExactValidPlacesSpec : ChangeSpec := { name := "fnExactValidPlaces", fn := fun _ => fun
  | [d1, d2, d3] => { results := [.lit (.bool true)], args := [d1, d2, d3] }
  | _ => none }
def fnExactValidPlacesRow : OpenClaim := { program := "ytegabdhmfemgkaa", sum := "97620dcca91231cf3e4d40dd4d1f79209af2ec473d9b97b8ad1f998648de82b2", func := "loop.example/g01046/laws.FnExactValidPlaces", spec := "fnExactValidPlaces", unfollowed := true, recurses := true, plainKeys := false, apart := false }
def FnExactValidPlacesSaid : Prop := fnExactValidPlacesRow.holds Try.pinned (OpenSpec.ofChange fnExactValidPlacesSpec)

/-- ITS FALSE NEIGHBOUR: 'it returns false'. Refute it at one input. -/
def fnExactValidPlacesWrong : ChangeSpec := { name := "fnExactValidPlaces", fn := fun _ => fun
  | [d1, d2, d3] => { results := [.lit (.bool false)], args := [d1, d2, d3] }
  | _ => none }
def FnExactValidPlacesWrongFalsely : Prop := fnExactValidPlacesRow.holds Try.pinned (OpenSpec.ofChange fnExactValidPlacesWrong)

/-- 'laws.FnExactCountReached': WHATEVER THE INPUT: true; the input reads as it did. -/
def fnExactCountReachedSpec : ChangeSpec := { name := "fnExactCountReached", fn := fun _ => fun
  | [d1, d2] => { results := [.lit (.bool true)], args := [d1, d2] }
  | _ => none }
def fnExactCountReachedRow : OpenClaim := { program := "ytegabdhmfemgkaa", sum := "97620dcca91231cf3e4d40dd4d1f79209af2ec473d9b97b8ad1f998648de82b2", func := "loop.example/g01046/laws.FnExactCountReached", spec := "fnExactCountReached", unfollowed := true, recurses := true, plainKeys := false, apart := false }
def FnExactCountReachedSaid : Prop := fnExactCountReachedRow.holds Try.pinned (OpenSpec.ofChange fnExactCountReachedSpec)

/-- ITS FALSE NEIGHBOUR: 'it returns false'. Refute it at one input. -/
def fnExactCountReachedWrong : ChangeSpec := { name := "fnExactCountReached", fn := fun _ => fun
  | [d1, d2] => { results := [.lit (.bool false)], args := [d1, d2] }
  | _ => none }
def FnExactCountReachedWrongFalsely : Prop := fnExactCountReachedRow.holds Try.pinned (OpenSpec.ofChange fnExactCountReachedWrong)

/-- 'laws.FnExactNextMoves': WHATEVER THE INPUT: true; the input reads as it did. -/
def fnExactNextMovesSpec : ChangeSpec := { name := "fnExactNextMoves", fn := fun _ => fun
  | [d1, d2, d3] => { results := [.lit (.bool true)], args := [d1, d2, d3] }
  | _ => none }
def fnExactNextMovesRow : OpenClaim := { program := "ytegabdhmfemgkaa", sum := "97620dcca91231cf3e4d40dd4d1f79209af2ec473d9b97b8ad1f998648de82b2", func := "loop.example/g01046/laws.FnExactNextMoves", spec := "fnExactNextMoves", unfollowed := true, recurses := true, plainKeys := false, apart := false }
def FnExactNextMovesSaid : Prop := fnExactNextMovesRow.holds Try.pinned (OpenSpec.ofChange fnExactNextMovesSpec)

/-- ITS FALSE NEIGHBOUR: 'it returns false'. Refute it at one input. -/
def fnExactNextMovesWrong : ChangeSpec := { name := "fnExactNextMoves", fn := fun _ => fun
  | [d1, d2, d3] => { results := [.lit (.bool false)], args := [d1, d2, d3] }
  | _ => none }
def FnExactNextMovesWrongFalsely : Prop := fnExactNextMovesRow.holds Try.pinned (OpenSpec.ofChange fnExactNextMovesWrong)

/-- 'laws.FnExactIsFree': WHATEVER THE INPUT: true; the input reads as it did. -/
def fnExactIsFreeSpec : ChangeSpec := { name := "fnExactIsFree", fn := fun _ => fun
  | [d1, d2] => { results := [.lit (.bool true)], args := [d1, d2] }
  | _ => none }
def fnExactIsFreeRow : OpenClaim := { program := "ytegabdhmfemgkaa", sum := "97620dcca91231cf3e4d40dd4d1f79209af2ec473d9b97b8ad1f998648de82b2", func := "loop.example/g01046/laws.FnExactIsFree", spec := "fnExactIsFree", unfollowed := true, recurses := true, plainKeys := false, apart := false }
def FnExactIsFreeSaid : Prop := fnExactIsFreeRow.holds Try.pinned (OpenSpec.ofChange fnExactIsFreeSpec)

/-- ITS FALSE NEIGHBOUR: 'it returns false'. Refute it at one input. -/
def fnExactIsFreeWrong : ChangeSpec := { name := "fnExactIsFree", fn := fun _ => fun
  | [d1, d2] => { results := [.lit (.bool false)], args := [d1, d2] }
  | _ => none }
def FnExactIsFreeWrongFalsely : Prop := fnExactIsFreeRow.holds Try.pinned (OpenSpec.ofChange fnExactIsFreeWrong)

/-- 'laws.FnExactMostAtOnce': WHATEVER THE INPUT: true; the input reads as it did. -/
def fnExactMostAtOnceSpec : ChangeSpec := { name := "fnExactMostAtOnce", fn := fun _ => fun
  | [d1, d2] => { results := [.lit (.bool true)], args := [d1, d2] }
  | _ => none }
def fnExactMostAtOnceRow : OpenClaim := { program := "ytegabdhmfemgkaa", sum := "97620dcca91231cf3e4d40dd4d1f79209af2ec473d9b97b8ad1f998648de82b2", func := "loop.example/g01046/laws.FnExactMostAtOnce", spec := "fnExactMostAtOnce", unfollowed := true, recurses := true, plainKeys := false, apart := false }
def FnExactMostAtOnceSaid : Prop := fnExactMostAtOnceRow.holds Try.pinned (OpenSpec.ofChange fnExactMostAtOnceSpec)

/-- ITS FALSE NEIGHBOUR: 'it returns false'. Refute it at one input. -/
def fnExactMostAtOnceWrong : ChangeSpec := { name := "fnExactMostAtOnce", fn := fun _ => fun
  | [d1, d2] => { results := [.lit (.bool false)], args := [d1, d2] }
  | _ => none }
def FnExactMostAtOnceWrongFalsely : Prop := fnExactMostAtOnceRow.holds Try.pinned (OpenSpec.ofChange fnExactMostAtOnceWrong)

/-- 'laws.FnExactFirstDeadlock': WHATEVER THE INPUT: true; the input reads as it did. -/
def fnExactFirstDeadlockSpec : ChangeSpec := { name := "fnExactFirstDeadlock", fn := fun _ => fun
  | [d1, d2] => { results := [.lit (.bool true)], args := [d1, d2] }
  | _ => none }
def fnExactFirstDeadlockRow : OpenClaim := { program := "ytegabdhmfemgkaa", sum := "97620dcca91231cf3e4d40dd4d1f79209af2ec473d9b97b8ad1f998648de82b2", func := "loop.example/g01046/laws.FnExactFirstDeadlock", spec := "fnExactFirstDeadlock", unfollowed := true, recurses := true, plainKeys := false, apart := false }
def FnExactFirstDeadlockSaid : Prop := fnExactFirstDeadlockRow.holds Try.pinned (OpenSpec.ofChange fnExactFirstDeadlockSpec)

/-- ITS FALSE NEIGHBOUR: 'it returns false'. Refute it at one input. -/
def fnExactFirstDeadlockWrong : ChangeSpec := { name := "fnExactFirstDeadlock", fn := fun _ => fun
  | [d1, d2] => { results := [.lit (.bool false)], args := [d1, d2] }
  | _ => none }
def FnExactFirstDeadlockWrongFalsely : Prop := fnExactFirstDeadlockRow.holds Try.pinned (OpenSpec.ofChange fnExactFirstDeadlockWrong)

/-- 'laws.FnExactSafeRun': WHATEVER THE INPUT: true; the input reads as it did. -/
def fnExactSafeRunSpec : ChangeSpec := { name := "fnExactSafeRun", fn := fun _ => fun
  | [d1, d2] => { results := [.lit (.bool true)], args := [d1, d2] }
  | _ => none }
def fnExactSafeRunRow : OpenClaim := { program := "ytegabdhmfemgkaa", sum := "97620dcca91231cf3e4d40dd4d1f79209af2ec473d9b97b8ad1f998648de82b2", func := "loop.example/g01046/laws.FnExactSafeRun", spec := "fnExactSafeRun", unfollowed := true, recurses := true, plainKeys := false, apart := false }
def FnExactSafeRunSaid : Prop := fnExactSafeRunRow.holds Try.pinned (OpenSpec.ofChange fnExactSafeRunSpec)

/-- ITS FALSE NEIGHBOUR: 'it returns false'. Refute it at one input. -/
def fnExactSafeRunWrong : ChangeSpec := { name := "fnExactSafeRun", fn := fun _ => fun
  | [d1, d2] => { results := [.lit (.bool false)], args := [d1, d2] }
  | _ => none }
def FnExactSafeRunWrongFalsely : Prop := fnExactSafeRunRow.holds Try.pinned (OpenSpec.ofChange fnExactSafeRunWrong)

/-- 'laws.FnExactIsSafe': WHATEVER THE INPUT: true; the input reads as it did. -/
def fnExactIsSafeSpec : ChangeSpec := { name := "fnExactIsSafe", fn := fun _ => fun
  | [d1, d2, d3] => { results := [.lit (.bool true)], args := [d1, d2, d3] }
  | _ => none }
def fnExactIsSafeRow : OpenClaim := { program := "ytegabdhmfemgkaa", sum := "97620dcca91231cf3e4d40dd4d1f79209af2ec473d9b97b8ad1f998648de82b2", func := "loop.example/g01046/laws.FnExactIsSafe", spec := "fnExactIsSafe", unfollowed := true, recurses := true, plainKeys := false, apart := false }
def FnExactIsSafeSaid : Prop := fnExactIsSafeRow.holds Try.pinned (OpenSpec.ofChange fnExactIsSafeSpec)

/-- ITS FALSE NEIGHBOUR: 'it returns false'. Refute it at one input. -/
def fnExactIsSafeWrong : ChangeSpec := { name := "fnExactIsSafe", fn := fun _ => fun
  | [d1, d2, d3] => { results := [.lit (.bool false)], args := [d1, d2, d3] }
  | _ => none }
def FnExactIsSafeWrongFalsely : Prop := fnExactIsSafeRow.holds Try.pinned (OpenSpec.ofChange fnExactIsSafeWrong)

/-- 'laws.FnExactSafeMoves': WHATEVER THE INPUT: true; the input reads as it did. -/
def fnExactSafeMovesSpec : ChangeSpec := { name := "fnExactSafeMoves", fn := fun _ => fun
  | [d1, d2, d3] => { results := [.lit (.bool true)], args := [d1, d2, d3] }
  | _ => none }
def fnExactSafeMovesRow : OpenClaim := { program := "ytegabdhmfemgkaa", sum := "97620dcca91231cf3e4d40dd4d1f79209af2ec473d9b97b8ad1f998648de82b2", func := "loop.example/g01046/laws.FnExactSafeMoves", spec := "fnExactSafeMoves", unfollowed := true, recurses := true, plainKeys := false, apart := false }
def FnExactSafeMovesSaid : Prop := fnExactSafeMovesRow.holds Try.pinned (OpenSpec.ofChange fnExactSafeMovesSpec)

/-- ITS FALSE NEIGHBOUR: 'it returns false'. Refute it at one input. -/
def fnExactSafeMovesWrong : ChangeSpec := { name := "fnExactSafeMoves", fn := fun _ => fun
  | [d1, d2, d3] => { results := [.lit (.bool false)], args := [d1, d2, d3] }
  | _ => none }
def FnExactSafeMovesWrongFalsely : Prop := fnExactSafeMovesRow.holds Try.pinned (OpenSpec.ofChange fnExactSafeMovesWrong)

/- THE SECOND FORM. 'bulk': how many values and letters a reading holds, each counted each time it is reached (what is shared counts as often as it is met; a slice's spare places count too). A statement '..UptoSaid' is the law's where the arguments, and the package variables that the reading takes, are together of bulk at most 1048576: NARROWER than '..Said'. Prove '..Said' where nothing that the law and all that it calls make is longer than what came in: it says more and counts as full. Else prove '..UptoSaid'. A law counts once. -/
mutual
def uptoBulk {H : Type} : DataW H → Nat
  | .lit (.string bytes) => bytes.length + 1
  | .lit _ => 1
  | .nil => 1
  | .ptr d => uptoBulk d + 1
  | .slice elems spare => uptoBulkAll elems + uptoBulkAll spare + 1
  | .agg parts => uptoBulkAll parts + 1
  | .iface _ d => uptoBulk d + 1
  | .map entries => uptoBulkEntries entries + 1
  | .held _ => 1
def uptoBulkAll {H : Type} : List (DataW H) → Nat
  | [] => 0
  | d :: r => uptoBulk d + uptoBulkAll r
def uptoBulkEntries {H : Type} : List (Lit × DataW H) → Nat
  | [] => 0
  | x :: r => uptoBulkEntry x + uptoBulkEntries r
def uptoBulkEntry {H : Type} : Lit × DataW H → Nat
  | (.string bytes, d) => bytes.length + uptoBulk d + 1
  | (_, d) => uptoBulk d + 1
 end
def uptoSmall : (H : Type) → List (DataW H) → Bool := fun _ ds => decide (uptoBulkAll ds ≤ 1048576)
def OpenSpec.upto (s : _root_.Go.ChangeSpec) : _root_.Go.OpenSpec := { _root_.Go.OpenSpec.ofChange s with cond := some uptoSmall }

/-- 'laws.FnExactSetText', WHERE WHAT IT READS IS OF BULK AT MOST 1048576: true; the input reads as it did. -/
def fnExactSetTextUptoRow : OpenClaim := { program := "ytegabdhmfemgkaa", sum := "97620dcca91231cf3e4d40dd4d1f79209af2ec473d9b97b8ad1f998648de82b2", func := "loop.example/g01046/laws.FnExactSetText", spec := "fnExactSetText", unfollowed := true, recurses := true, plainKeys := false, apart := false, narrowed := true }
def FnExactSetTextUptoSaid : Prop := fnExactSetTextUptoRow.holds Try.pinned (OpenSpec.upto fnExactSetTextSpec)

/-- 'laws.FnAtOnce', WHERE WHAT IT READS IS OF BULK AT MOST 1048576: true; the input reads as it did. -/
def fnAtOnceUptoRow : OpenClaim := { program := "ytegabdhmfemgkaa", sum := "97620dcca91231cf3e4d40dd4d1f79209af2ec473d9b97b8ad1f998648de82b2", func := "loop.example/g01046/laws.FnAtOnce", spec := "fnAtOnce", unfollowed := true, recurses := true, plainKeys := false, apart := false, narrowed := true }
def FnAtOnceUptoSaid : Prop := fnAtOnceUptoRow.holds Try.pinned (OpenSpec.upto fnAtOnceSpec)

/-- 'laws.FnExactValidTravels', WHERE WHAT IT READS IS OF BULK AT MOST 1048576: true; the input reads as it did. -/
def fnExactValidTravelsUptoRow : OpenClaim := { program := "ytegabdhmfemgkaa", sum := "97620dcca91231cf3e4d40dd4d1f79209af2ec473d9b97b8ad1f998648de82b2", func := "loop.example/g01046/laws.FnExactValidTravels", spec := "fnExactValidTravels", unfollowed := true, recurses := true, plainKeys := false, apart := false, narrowed := true }
def FnExactValidTravelsUptoSaid : Prop := fnExactValidTravelsUptoRow.holds Try.pinned (OpenSpec.upto fnExactValidTravelsSpec)

/-- 'laws.FnStates', WHERE WHAT IT READS IS OF BULK AT MOST 1048576: true; the input reads as it did. -/
def fnStatesUptoRow : OpenClaim := { program := "ytegabdhmfemgkaa", sum := "97620dcca91231cf3e4d40dd4d1f79209af2ec473d9b97b8ad1f998648de82b2", func := "loop.example/g01046/laws.FnStates", spec := "fnStates", unfollowed := true, recurses := true, plainKeys := false, apart := false, narrowed := true }
def FnStatesUptoSaid : Prop := fnStatesUptoRow.holds Try.pinned (OpenSpec.upto fnStatesSpec)

/-- 'laws.FnExactValidPlaces', WHERE WHAT IT READS IS OF BULK AT MOST 1048576: true; the input reads as it did. -/
def fnExactValidPlacesUptoRow : OpenClaim := { program := "ytegabdhmfemgkaa", sum := "97620dcca91231cf3e4d40dd4d1f79209af2ec473d9b97b8ad1f998648de82b2", func := "loop.example/g01046/laws.FnExactValidPlaces", spec := "fnExactValidPlaces", unfollowed := true, recurses := true, plainKeys := false, apart := false, narrowed := true }
def FnExactValidPlacesUptoSaid : Prop := fnExactValidPlacesUptoRow.holds Try.pinned (OpenSpec.upto fnExactValidPlacesSpec)

/-- 'laws.FnExactCountReached', WHERE WHAT IT READS IS OF BULK AT MOST 1048576: true; the input reads as it did. -/
def fnExactCountReachedUptoRow : OpenClaim := { program := "ytegabdhmfemgkaa", sum := "97620dcca91231cf3e4d40dd4d1f79209af2ec473d9b97b8ad1f998648de82b2", func := "loop.example/g01046/laws.FnExactCountReached", spec := "fnExactCountReached", unfollowed := true, recurses := true, plainKeys := false, apart := false, narrowed := true }
def FnExactCountReachedUptoSaid : Prop := fnExactCountReachedUptoRow.holds Try.pinned (OpenSpec.upto fnExactCountReachedSpec)

/-- 'laws.FnExactNextMoves', WHERE WHAT IT READS IS OF BULK AT MOST 1048576: true; the input reads as it did. -/
def fnExactNextMovesUptoRow : OpenClaim := { program := "ytegabdhmfemgkaa", sum := "97620dcca91231cf3e4d40dd4d1f79209af2ec473d9b97b8ad1f998648de82b2", func := "loop.example/g01046/laws.FnExactNextMoves", spec := "fnExactNextMoves", unfollowed := true, recurses := true, plainKeys := false, apart := false, narrowed := true }
def FnExactNextMovesUptoSaid : Prop := fnExactNextMovesUptoRow.holds Try.pinned (OpenSpec.upto fnExactNextMovesSpec)

/-- 'laws.FnExactIsFree', WHERE WHAT IT READS IS OF BULK AT MOST 1048576: true; the input reads as it did. -/
def fnExactIsFreeUptoRow : OpenClaim := { program := "ytegabdhmfemgkaa", sum := "97620dcca91231cf3e4d40dd4d1f79209af2ec473d9b97b8ad1f998648de82b2", func := "loop.example/g01046/laws.FnExactIsFree", spec := "fnExactIsFree", unfollowed := true, recurses := true, plainKeys := false, apart := false, narrowed := true }
def FnExactIsFreeUptoSaid : Prop := fnExactIsFreeUptoRow.holds Try.pinned (OpenSpec.upto fnExactIsFreeSpec)

/-- 'laws.FnExactMostAtOnce', WHERE WHAT IT READS IS OF BULK AT MOST 1048576: true; the input reads as it did. -/
def fnExactMostAtOnceUptoRow : OpenClaim := { program := "ytegabdhmfemgkaa", sum := "97620dcca91231cf3e4d40dd4d1f79209af2ec473d9b97b8ad1f998648de82b2", func := "loop.example/g01046/laws.FnExactMostAtOnce", spec := "fnExactMostAtOnce", unfollowed := true, recurses := true, plainKeys := false, apart := false, narrowed := true }
def FnExactMostAtOnceUptoSaid : Prop := fnExactMostAtOnceUptoRow.holds Try.pinned (OpenSpec.upto fnExactMostAtOnceSpec)

/-- 'laws.FnExactFirstDeadlock', WHERE WHAT IT READS IS OF BULK AT MOST 1048576: true; the input reads as it did. -/
def fnExactFirstDeadlockUptoRow : OpenClaim := { program := "ytegabdhmfemgkaa", sum := "97620dcca91231cf3e4d40dd4d1f79209af2ec473d9b97b8ad1f998648de82b2", func := "loop.example/g01046/laws.FnExactFirstDeadlock", spec := "fnExactFirstDeadlock", unfollowed := true, recurses := true, plainKeys := false, apart := false, narrowed := true }
def FnExactFirstDeadlockUptoSaid : Prop := fnExactFirstDeadlockUptoRow.holds Try.pinned (OpenSpec.upto fnExactFirstDeadlockSpec)

/-- 'laws.FnExactSafeRun', WHERE WHAT IT READS IS OF BULK AT MOST 1048576: true; the input reads as it did. -/
def fnExactSafeRunUptoRow : OpenClaim := { program := "ytegabdhmfemgkaa", sum := "97620dcca91231cf3e4d40dd4d1f79209af2ec473d9b97b8ad1f998648de82b2", func := "loop.example/g01046/laws.FnExactSafeRun", spec := "fnExactSafeRun", unfollowed := true, recurses := true, plainKeys := false, apart := false, narrowed := true }
def FnExactSafeRunUptoSaid : Prop := fnExactSafeRunUptoRow.holds Try.pinned (OpenSpec.upto fnExactSafeRunSpec)

/-- 'laws.FnExactIsSafe', WHERE WHAT IT READS IS OF BULK AT MOST 1048576: true; the input reads as it did. -/
def fnExactIsSafeUptoRow : OpenClaim := { program := "ytegabdhmfemgkaa", sum := "97620dcca91231cf3e4d40dd4d1f79209af2ec473d9b97b8ad1f998648de82b2", func := "loop.example/g01046/laws.FnExactIsSafe", spec := "fnExactIsSafe", unfollowed := true, recurses := true, plainKeys := false, apart := false, narrowed := true }
def FnExactIsSafeUptoSaid : Prop := fnExactIsSafeUptoRow.holds Try.pinned (OpenSpec.upto fnExactIsSafeSpec)

/-- 'laws.FnExactSafeMoves', WHERE WHAT IT READS IS OF BULK AT MOST 1048576: true; the input reads as it did. -/
def fnExactSafeMovesUptoRow : OpenClaim := { program := "ytegabdhmfemgkaa", sum := "97620dcca91231cf3e4d40dd4d1f79209af2ec473d9b97b8ad1f998648de82b2", func := "loop.example/g01046/laws.FnExactSafeMoves", spec := "fnExactSafeMoves", unfollowed := true, recurses := true, plainKeys := false, apart := false, narrowed := true }
def FnExactSafeMovesUptoSaid : Prop := fnExactSafeMovesUptoRow.holds Try.pinned (OpenSpec.upto fnExactSafeMovesSpec)

end Rows
end Go.Proofs.Ytegabdhmfemgkaa
