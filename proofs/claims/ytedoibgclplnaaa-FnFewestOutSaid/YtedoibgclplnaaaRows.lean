/-
  No cell of these rows narrows 'for every input' (looked for: loops, veiled, ifaces, maps, wideKeys, modest, calm, conditions, laid).
  DERIVED. THE GIVEN ROWS OF THIS SEAT. 10 by the template 'for every input the law returns true; each argument reads behind the call as it read before'; 0 by the template 'total and deterministic' (their statements: YtedoibgclplnaaaTotals.lean).
  GIVEN WITH THE SEED: the statements are not yours to turn. If you find one false, say at which input.
  Laid BY PROGRAM, IN A SANDBOX (cutbox-rows.mjs): the forced cells as the released guide's own fill.sh prints them over the translation a687f18ca926c464… (all of the seat's roots in one cut). By AI agents, Wed Nov 11 2026. No macro, syntax, notation, axiom, sorry.
-/
import Derived.Test.YtedoibgclplnaaaChecked
import GoSem.Claim
import GoSem.ClaimJoined
import GoSem.ClaimMapViews
import Derived.JoinedTies
import Derived.KernelRfl
namespace Go.Proofs.Ytedoibgclplnaaa
/- THE CELL 'sum', in the pinned program and in every row, IS THE sha256 OF THE DUMP (.gsa) THAT YtedoibgclplnaaaProg.lean LOADS. Nothing in Lean hashes anything: it is a label: what it is worth is what the hold of that sum in a sandbox is worth. -/
noncomputable def Try.pinned : Pinned := { name := "ytedoibgclplnaaa", sum := "a687f18ca926c4644e860e8a7df5305482e20d2d5d904f73c139418cff88d0c7", checked := Try.checked }
namespace Rows
def none {H : Type} : Left H := { results := [], args := [] }

/-- 'laws.FnFewestOut': WHATEVER THE INPUT: true; the input reads as it did. -/
def fnFewestOutSpec : ChangeSpec := { name := "fnFewestOut", fn := fun _ => fun
  | [d1, d2] => { results := [.lit (.bool true)], args := [d1, d2] }
  | _ => none }
def fnFewestOutRow : OpenClaim := { program := "ytedoibgclplnaaa", sum := "a687f18ca926c4644e860e8a7df5305482e20d2d5d904f73c139418cff88d0c7", func := "loop.example/g01046/laws.FnFewestOut", spec := "fnFewestOut", unfollowed := true, recurses := true, apart := false }
def FnFewestOutSaid : Prop := fnFewestOutRow.holds Try.pinned (OpenSpec.ofChange fnFewestOutSpec)

/-- ITS FALSE NEIGHBOUR: 'it returns false'. Refute it at one input. -/
def fnFewestOutWrong : ChangeSpec := { name := "fnFewestOut", fn := fun _ => fun
  | [d1, d2] => { results := [.lit (.bool false)], args := [d1, d2] }
  | _ => none }
def FnFewestOutWrongFalsely : Prop := fnFewestOutRow.holds Try.pinned (OpenSpec.ofChange fnFewestOutWrong)

/-- 'laws.FnExactFreePlaces': WHATEVER THE INPUT: true; the input reads as it did. -/
def fnExactFreePlacesSpec : ChangeSpec := { name := "fnExactFreePlaces", fn := fun _ => fun
  | [d1, d2] => { results := [.lit (.bool true)], args := [d1, d2] }
  | _ => none }
def fnExactFreePlacesRow : OpenClaim := { program := "ytedoibgclplnaaa", sum := "a687f18ca926c4644e860e8a7df5305482e20d2d5d904f73c139418cff88d0c7", func := "loop.example/g01046/laws.FnExactFreePlaces", spec := "fnExactFreePlaces", unfollowed := true, recurses := true, apart := false }
def FnExactFreePlacesSaid : Prop := fnExactFreePlacesRow.holds Try.pinned (OpenSpec.ofChange fnExactFreePlacesSpec)

/-- ITS FALSE NEIGHBOUR: 'it returns false'. Refute it at one input. -/
def fnExactFreePlacesWrong : ChangeSpec := { name := "fnExactFreePlaces", fn := fun _ => fun
  | [d1, d2] => { results := [.lit (.bool false)], args := [d1, d2] }
  | _ => none }
def FnExactFreePlacesWrongFalsely : Prop := fnExactFreePlacesRow.holds Try.pinned (OpenSpec.ofChange fnExactFreePlacesWrong)

/-- 'laws.FnExactIsStuck': WHATEVER THE INPUT: true; the input reads as it did. -/
def fnExactIsStuckSpec : ChangeSpec := { name := "fnExactIsStuck", fn := fun _ => fun
  | [d1, d2] => { results := [.lit (.bool true)], args := [d1, d2] }
  | _ => none }
def fnExactIsStuckRow : OpenClaim := { program := "ytedoibgclplnaaa", sum := "a687f18ca926c4644e860e8a7df5305482e20d2d5d904f73c139418cff88d0c7", func := "loop.example/g01046/laws.FnExactIsStuck", spec := "fnExactIsStuck", unfollowed := true, recurses := true, apart := false }
def FnExactIsStuckSaid : Prop := fnExactIsStuckRow.holds Try.pinned (OpenSpec.ofChange fnExactIsStuckSpec)

/-- ITS FALSE NEIGHBOUR: 'it returns false'. Refute it at one input. -/
def fnExactIsStuckWrong : ChangeSpec := { name := "fnExactIsStuck", fn := fun _ => fun
  | [d1, d2] => { results := [.lit (.bool false)], args := [d1, d2] }
  | _ => none }
def FnExactIsStuckWrongFalsely : Prop := fnExactIsStuckRow.holds Try.pinned (OpenSpec.ofChange fnExactIsStuckWrong)

/-- 'laws.FnExactCanGo': WHATEVER THE INPUT: true; the input reads as it did. -/
def fnExactCanGoSpec : ChangeSpec := { name := "fnExactCanGo", fn := fun _ => fun
  | [d1, d2] => { results := [.lit (.bool true)], args := [d1, d2] }
  | _ => none }
def fnExactCanGoRow : OpenClaim := { program := "ytedoibgclplnaaa", sum := "a687f18ca926c4644e860e8a7df5305482e20d2d5d904f73c139418cff88d0c7", func := "loop.example/g01046/laws.FnExactCanGo", spec := "fnExactCanGo", unfollowed := true, recurses := true, apart := false }
def FnExactCanGoSaid : Prop := fnExactCanGoRow.holds Try.pinned (OpenSpec.ofChange fnExactCanGoSpec)

/-- ITS FALSE NEIGHBOUR: 'it returns false'. Refute it at one input. -/
def fnExactCanGoWrong : ChangeSpec := { name := "fnExactCanGo", fn := fun _ => fun
  | [d1, d2] => { results := [.lit (.bool false)], args := [d1, d2] }
  | _ => none }
def FnExactCanGoWrongFalsely : Prop := fnExactCanGoRow.holds Try.pinned (OpenSpec.ofChange fnExactCanGoWrong)

/-- 'laws.FnExactGoOne': WHATEVER THE INPUT: true; the input reads as it did. -/
def fnExactGoOneSpec : ChangeSpec := { name := "fnExactGoOne", fn := fun _ => fun
  | [d1, d2, d3] => { results := [.lit (.bool true)], args := [d1, d2, d3] }
  | _ => none }
def fnExactGoOneRow : OpenClaim := { program := "ytedoibgclplnaaa", sum := "a687f18ca926c4644e860e8a7df5305482e20d2d5d904f73c139418cff88d0c7", func := "loop.example/g01046/laws.FnExactGoOne", spec := "fnExactGoOne", unfollowed := true, recurses := true, apart := false }
def FnExactGoOneSaid : Prop := fnExactGoOneRow.holds Try.pinned (OpenSpec.ofChange fnExactGoOneSpec)

/-- ITS FALSE NEIGHBOUR: 'it returns false'. Refute it at one input. -/
def fnExactGoOneWrong : ChangeSpec := { name := "fnExactGoOne", fn := fun _ => fun
  | [d1, d2, d3] => { results := [.lit (.bool false)], args := [d1, d2, d3] }
  | _ => none }
def FnExactGoOneWrongFalsely : Prop := fnExactGoOneRow.holds Try.pinned (OpenSpec.ofChange fnExactGoOneWrong)

/-- 'laws.FnExactWaitCircle': WHATEVER THE INPUT: true; the input reads as it did. -/
def fnExactWaitCircleSpec : ChangeSpec := { name := "fnExactWaitCircle", fn := fun _ => fun
  | [d1, d2] => { results := [.lit (.bool true)], args := [d1, d2] }
  | _ => none }
def fnExactWaitCircleRow : OpenClaim := { program := "ytedoibgclplnaaa", sum := "a687f18ca926c4644e860e8a7df5305482e20d2d5d904f73c139418cff88d0c7", func := "loop.example/g01046/laws.FnExactWaitCircle", spec := "fnExactWaitCircle", unfollowed := true, recurses := true, apart := false }
def FnExactWaitCircleSaid : Prop := fnExactWaitCircleRow.holds Try.pinned (OpenSpec.ofChange fnExactWaitCircleSpec)

/-- ITS FALSE NEIGHBOUR: 'it returns false'. Refute it at one input. -/
def fnExactWaitCircleWrong : ChangeSpec := { name := "fnExactWaitCircle", fn := fun _ => fun
  | [d1, d2] => { results := [.lit (.bool false)], args := [d1, d2] }
  | _ => none }
def FnExactWaitCircleWrongFalsely : Prop := fnExactWaitCircleRow.holds Try.pinned (OpenSpec.ofChange fnExactWaitCircleWrong)

/-- 'laws.FnExactMostGone': WHATEVER THE INPUT: true; the input reads as it did. -/
def fnExactMostGoneSpec : ChangeSpec := { name := "fnExactMostGone", fn := fun _ => fun
  | [d1, d2] => { results := [.lit (.bool true)], args := [d1, d2] }
  | _ => none }
def fnExactMostGoneRow : OpenClaim := { program := "ytedoibgclplnaaa", sum := "a687f18ca926c4644e860e8a7df5305482e20d2d5d904f73c139418cff88d0c7", func := "loop.example/g01046/laws.FnExactMostGone", spec := "fnExactMostGone", unfollowed := true, recurses := true, apart := false }
def FnExactMostGoneSaid : Prop := fnExactMostGoneRow.holds Try.pinned (OpenSpec.ofChange fnExactMostGoneSpec)

/-- ITS FALSE NEIGHBOUR: 'it returns false'. Refute it at one input. -/
def fnExactMostGoneWrong : ChangeSpec := { name := "fnExactMostGone", fn := fun _ => fun
  | [d1, d2] => { results := [.lit (.bool false)], args := [d1, d2] }
  | _ => none }
def FnExactMostGoneWrongFalsely : Prop := fnExactMostGoneRow.holds Try.pinned (OpenSpec.ofChange fnExactMostGoneWrong)

/-- 'laws.FnExactGoOrder': WHATEVER THE INPUT: true; the input reads as it did. -/
def fnExactGoOrderSpec : ChangeSpec := { name := "fnExactGoOrder", fn := fun _ => fun
  | [d1, d2] => { results := [.lit (.bool true)], args := [d1, d2] }
  | _ => none }
def fnExactGoOrderRow : OpenClaim := { program := "ytedoibgclplnaaa", sum := "a687f18ca926c4644e860e8a7df5305482e20d2d5d904f73c139418cff88d0c7", func := "loop.example/g01046/laws.FnExactGoOrder", spec := "fnExactGoOrder", unfollowed := true, recurses := true, apart := false }
def FnExactGoOrderSaid : Prop := fnExactGoOrderRow.holds Try.pinned (OpenSpec.ofChange fnExactGoOrderSpec)

/-- ITS FALSE NEIGHBOUR: 'it returns false'. Refute it at one input. -/
def fnExactGoOrderWrong : ChangeSpec := { name := "fnExactGoOrder", fn := fun _ => fun
  | [d1, d2] => { results := [.lit (.bool false)], args := [d1, d2] }
  | _ => none }
def FnExactGoOrderWrongFalsely : Prop := fnExactGoOrderRow.holds Try.pinned (OpenSpec.ofChange fnExactGoOrderWrong)

/-- 'laws.FnExactFewestOut': WHATEVER THE INPUT: true; the input reads as it did. -/
def fnExactFewestOutSpec : ChangeSpec := { name := "fnExactFewestOut", fn := fun _ => fun
  | [d1, d2] => { results := [.lit (.bool true)], args := [d1, d2] }
  | _ => none }
def fnExactFewestOutRow : OpenClaim := { program := "ytedoibgclplnaaa", sum := "a687f18ca926c4644e860e8a7df5305482e20d2d5d904f73c139418cff88d0c7", func := "loop.example/g01046/laws.FnExactFewestOut", spec := "fnExactFewestOut", unfollowed := true, recurses := true, apart := false }
def FnExactFewestOutSaid : Prop := fnExactFewestOutRow.holds Try.pinned (OpenSpec.ofChange fnExactFewestOutSpec)

/-- ITS FALSE NEIGHBOUR: 'it returns false'. Refute it at one input. -/
def fnExactFewestOutWrong : ChangeSpec := { name := "fnExactFewestOut", fn := fun _ => fun
  | [d1, d2] => { results := [.lit (.bool false)], args := [d1, d2] }
  | _ => none }
def FnExactFewestOutWrongFalsely : Prop := fnExactFewestOutRow.holds Try.pinned (OpenSpec.ofChange fnExactFewestOutWrong)

/-- 'laws.FnGuests': WHATEVER THE INPUT: true; the input reads as it did. -/
def fnGuestsSpec : ChangeSpec := { name := "fnGuests", fn := fun _ => fun
  | [d] => { results := [.lit (.bool true)], args := [d] }
  | _ => none }
def fnGuestsRow : OpenClaim := { program := "ytedoibgclplnaaa", sum := "a687f18ca926c4644e860e8a7df5305482e20d2d5d904f73c139418cff88d0c7", func := "loop.example/g01046/laws.FnGuests", spec := "fnGuests", unfollowed := true, recurses := true, apart := false }
def FnGuestsSaid : Prop := fnGuestsRow.holds Try.pinned (OpenSpec.ofChange fnGuestsSpec)

/-- ITS FALSE NEIGHBOUR: 'it returns false'. Refute it at one input. -/
def fnGuestsWrong : ChangeSpec := { name := "fnGuests", fn := fun _ => fun
  | [d] => { results := [.lit (.bool false)], args := [d] }
  | _ => none }
def FnGuestsWrongFalsely : Prop := fnGuestsRow.holds Try.pinned (OpenSpec.ofChange fnGuestsWrong)

/- THE SECOND FORM. 'bulk': how many values and letters a reading holds, each counted each time it is reached (what is shared counts as often as it is met; a slice's spare places count too). A statement '..UptoSaid' is the law's where the arguments, and the package variables that the reading takes, are together of bulk at most 1048576: NARROWER than '..Said'. Prove '..Said' where nothing that the law and all that it calls make is longer than what came in: it says more and counts as full. Else prove '..UptoSaid'. A law counts once. -/
mutual
def uptoBulk {H : Type} : DataW H → Nat
  | .lit (.string bytes) => bytes.length + 1
  | .lit _ => 1
  | .nil => 1
  | .ptr d => uptoBulk d + 1
  | .slice elems spare => uptoBulkAll elems + uptoBulkAll spare + 1
  | .agg parts => uptoBulkAll parts + 1
  | .iface _ d => uptoBulk d + 1
  | .map entries => uptoBulkEntries entries + 1
  | .held _ => 1
def uptoBulkAll {H : Type} : List (DataW H) → Nat
  | [] => 0
  | d :: r => uptoBulk d + uptoBulkAll r
def uptoBulkEntries {H : Type} : List (Lit × DataW H) → Nat
  | [] => 0
  | x :: r => uptoBulkEntry x + uptoBulkEntries r
def uptoBulkEntry {H : Type} : Lit × DataW H → Nat
  | (.string bytes, d) => bytes.length + uptoBulk d + 1
  | (_, d) => uptoBulk d + 1
 end
def uptoSmall : (H : Type) → List (DataW H) → Bool := fun _ ds => decide (uptoBulkAll ds ≤ 1048576)
def OpenSpec.upto (s : _root_.Go.ChangeSpec) : _root_.Go.OpenSpec := { _root_.Go.OpenSpec.ofChange s with cond := some uptoSmall }

/-- 'laws.FnFewestOut', WHERE WHAT IT READS IS OF BULK AT MOST 1048576: true; the input reads as it did. -/
def fnFewestOutUptoRow : OpenClaim := { program := "ytedoibgclplnaaa", sum := "a687f18ca926c4644e860e8a7df5305482e20d2d5d904f73c139418cff88d0c7", func := "loop.example/g01046/laws.FnFewestOut", spec := "fnFewestOut", unfollowed := true, recurses := true, apart := false, narrowed := true }
def FnFewestOutUptoSaid : Prop := fnFewestOutUptoRow.holds Try.pinned (OpenSpec.upto fnFewestOutSpec)

/-- 'laws.FnExactFreePlaces', WHERE WHAT IT READS IS OF BULK AT MOST 1048576: true; the input reads as it did. -/
def fnExactFreePlacesUptoRow : OpenClaim := { program := "ytedoibgclplnaaa", sum := "a687f18ca926c4644e860e8a7df5305482e20d2d5d904f73c139418cff88d0c7", func := "loop.example/g01046/laws.FnExactFreePlaces", spec := "fnExactFreePlaces", unfollowed := true, recurses := true, apart := false, narrowed := true }
def FnExactFreePlacesUptoSaid : Prop := fnExactFreePlacesUptoRow.holds Try.pinned (OpenSpec.upto fnExactFreePlacesSpec)

/-- 'laws.FnExactIsStuck', WHERE WHAT IT READS IS OF BULK AT MOST 1048576: true; the input reads as it did. -/
def fnExactIsStuckUptoRow : OpenClaim := { program := "ytedoibgclplnaaa", sum := "a687f18ca926c4644e860e8a7df5305482e20d2d5d904f73c139418cff88d0c7", func := "loop.example/g01046/laws.FnExactIsStuck", spec := "fnExactIsStuck", unfollowed := true, recurses := true, apart := false, narrowed := true }
def FnExactIsStuckUptoSaid : Prop := fnExactIsStuckUptoRow.holds Try.pinned (OpenSpec.upto fnExactIsStuckSpec)

/-- 'laws.FnExactCanGo', WHERE WHAT IT READS IS OF BULK AT MOST 1048576: true; the input reads as it did. -/
def fnExactCanGoUptoRow : OpenClaim := { program := "ytedoibgclplnaaa", sum := "a687f18ca926c4644e860e8a7df5305482e20d2d5d904f73c139418cff88d0c7", func := "loop.example/g01046/laws.FnExactCanGo", spec := "fnExactCanGo", unfollowed := true, recurses := true, apart := false, narrowed := true }
def FnExactCanGoUptoSaid : Prop := fnExactCanGoUptoRow.holds Try.pinned (OpenSpec.upto fnExactCanGoSpec)

/-- 'laws.FnExactGoOne', WHERE WHAT IT READS IS OF BULK AT MOST 1048576: true; the input reads as it did. -/
def fnExactGoOneUptoRow : OpenClaim := { program := "ytedoibgclplnaaa", sum := "a687f18ca926c4644e860e8a7df5305482e20d2d5d904f73c139418cff88d0c7", func := "loop.example/g01046/laws.FnExactGoOne", spec := "fnExactGoOne", unfollowed := true, recurses := true, apart := false, narrowed := true }
def FnExactGoOneUptoSaid : Prop := fnExactGoOneUptoRow.holds Try.pinned (OpenSpec.upto fnExactGoOneSpec)

/-- 'laws.FnExactWaitCircle', WHERE WHAT IT READS IS OF BULK AT MOST 1048576: true; the input reads as it did. -/
def fnExactWaitCircleUptoRow : OpenClaim := { program := "ytedoibgclplnaaa", sum := "a687f18ca926c4644e860e8a7df5305482e20d2d5d904f73c139418cff88d0c7", func := "loop.example/g01046/laws.FnExactWaitCircle", spec := "fnExactWaitCircle", unfollowed := true, recurses := true, apart := false, narrowed := true }
def FnExactWaitCircleUptoSaid : Prop := fnExactWaitCircleUptoRow.holds Try.pinned (OpenSpec.upto fnExactWaitCircleSpec)

/-- 'laws.FnExactMostGone', WHERE WHAT IT READS IS OF BULK AT MOST 1048576: true; the input reads as it did. -/
def fnExactMostGoneUptoRow : OpenClaim := { program := "ytedoibgclplnaaa", sum := "a687f18ca926c4644e860e8a7df5305482e20d2d5d904f73c139418cff88d0c7", func := "loop.example/g01046/laws.FnExactMostGone", spec := "fnExactMostGone", unfollowed := true, recurses := true, apart := false, narrowed := true }
def FnExactMostGoneUptoSaid : Prop := fnExactMostGoneUptoRow.holds Try.pinned (OpenSpec.upto fnExactMostGoneSpec)

/-- 'laws.FnExactGoOrder', WHERE WHAT IT READS IS OF BULK AT MOST 1048576: true; the input reads as it did. -/
def fnExactGoOrderUptoRow : OpenClaim := { program := "ytedoibgclplnaaa", sum := "a687f18ca926c4644e860e8a7df5305482e20d2d5d904f73c139418cff88d0c7", func := "loop.example/g01046/laws.FnExactGoOrder", spec := "fnExactGoOrder", unfollowed := true, recurses := true, apart := false, narrowed := true }
def FnExactGoOrderUptoSaid : Prop := fnExactGoOrderUptoRow.holds Try.pinned (OpenSpec.upto fnExactGoOrderSpec)

/-- 'laws.FnExactFewestOut', WHERE WHAT IT READS IS OF BULK AT MOST 1048576: true; the input reads as it did. -/
def fnExactFewestOutUptoRow : OpenClaim := { program := "ytedoibgclplnaaa", sum := "a687f18ca926c4644e860e8a7df5305482e20d2d5d904f73c139418cff88d0c7", func := "loop.example/g01046/laws.FnExactFewestOut", spec := "fnExactFewestOut", unfollowed := true, recurses := true, apart := false, narrowed := true }
def FnExactFewestOutUptoSaid : Prop := fnExactFewestOutUptoRow.holds Try.pinned (OpenSpec.upto fnExactFewestOutSpec)

/-- 'laws.FnGuests', WHERE WHAT IT READS IS OF BULK AT MOST 1048576: true; the input reads as it did. -/
def fnGuestsUptoRow : OpenClaim := { program := "ytedoibgclplnaaa", sum := "a687f18ca926c4644e860e8a7df5305482e20d2d5d904f73c139418cff88d0c7", func := "loop.example/g01046/laws.FnGuests", spec := "fnGuests", unfollowed := true, recurses := true, apart := false, narrowed := true }
def FnGuestsUptoSaid : Prop := fnGuestsUptoRow.holds Try.pinned (OpenSpec.upto fnGuestsSpec)

end Rows
end Go.Proofs.Ytedoibgclplnaaa
