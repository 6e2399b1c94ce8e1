/-
  No cell of these rows narrows 'for every input' (looked for: loops, veiled, ifaces, maps, wideKeys, modest, calm, conditions, laid).
  DERIVED. THE GIVEN ROWS OF THIS SEAT. 11 by the template 'for every input the law returns true; each argument reads behind the call as it read before'; 0 by the template 'total and deterministic' (their statements: YtlgeddbgbcineaaTotals.lean).
  GIVEN WITH THE SEED: the statements are not yours to turn. If you find one false, say at which input.
  Laid BY PROGRAM, IN A SANDBOX (cutbox-rows.mjs): the forced cells as the released guide's own fill.sh prints them over the translation d9094374e9dce7d5… (all of the seat's roots in one cut). By AI agents, Wed Nov 11 2026. No macro, syntax, notation, axiom, sorry.
-/
import Derived.Test.YtlgeddbgbcineaaChecked
import GoSem.Claim
import GoSem.ClaimJoined
import GoSem.ClaimMapViews
import Derived.JoinedTies
import Derived.KernelRfl
namespace Go.Proofs.Ytlgeddbgbcineaa
/- THE CELL 'sum', in the pinned program and in every row, IS THE sha256 OF THE DUMP (.gsa) THAT YtlgeddbgbcineaaProg.lean LOADS. Nothing in Lean hashes anything: it is a label: what it is worth is what the hold of that sum in a sandbox is worth. -/
noncomputable def Try.pinned : Pinned := { name := "ytlgeddbgbcineaa", sum := "d9094374e9dce7d581959bc49b24c22a468d5eeaee5f1ec7c99ef20cc1de373a", checked := Try.checked }
namespace Rows
def none {H : Type} : Left H := { results := [], args := [] }

/-- 'laws.FnExactValidSensors': WHATEVER THE INPUT: true; the input reads as it did. -/
def fnExactValidSensorsSpec : ChangeSpec := { name := "fnExactValidSensors", fn := fun _ => fun
  | [d] => { results := [.lit (.bool true)], args := [d] }
  | _ => none }
def fnExactValidSensorsRow : OpenClaim := { program := "ytlgeddbgbcineaa", sum := "d9094374e9dce7d581959bc49b24c22a468d5eeaee5f1ec7c99ef20cc1de373a", func := "loop.example/g01046/laws.FnExactValidSensors", spec := "fnExactValidSensors", unfollowed := true, recurses := true, apart := false }
def FnExactValidSensorsSaid : Prop := fnExactValidSensorsRow.holds Try.pinned (OpenSpec.ofChange fnExactValidSensorsSpec)

/-- ITS FALSE NEIGHBOUR: 'it returns false'. Refute it at one input. -/
def fnExactValidSensorsWrong : ChangeSpec := { name := "fnExactValidSensors", fn := fun _ => fun
  | [d] => { results := [.lit (.bool false)], args := [d] }
  | _ => none }
def FnExactValidSensorsWrongFalsely : Prop := fnExactValidSensorsRow.holds Try.pinned (OpenSpec.ofChange fnExactValidSensorsWrong)

/-- 'laws.FnSeenNext': WHATEVER THE INPUT: true; the input reads as it did. -/
def fnSeenNextSpec : ChangeSpec := { name := "fnSeenNext", fn := fun _ => fun
  | [d1, d2] => { results := [.lit (.bool true)], args := [d1, d2] }
  | _ => none }
def fnSeenNextRow : OpenClaim := { program := "ytlgeddbgbcineaa", sum := "d9094374e9dce7d581959bc49b24c22a468d5eeaee5f1ec7c99ef20cc1de373a", func := "loop.example/g01046/laws.FnSeenNext", spec := "fnSeenNext", unfollowed := true, recurses := true, apart := false }
def FnSeenNextSaid : Prop := fnSeenNextRow.holds Try.pinned (OpenSpec.ofChange fnSeenNextSpec)

/-- ITS FALSE NEIGHBOUR: 'it returns false'. Refute it at one input. -/
def fnSeenNextWrong : ChangeSpec := { name := "fnSeenNext", fn := fun _ => fun
  | [d1, d2] => { results := [.lit (.bool false)], args := [d1, d2] }
  | _ => none }
def FnSeenNextWrongFalsely : Prop := fnSeenNextRow.holds Try.pinned (OpenSpec.ofChange fnSeenNextWrong)

/-- 'laws.FnExactNextSeen': WHATEVER THE INPUT: true; the input reads as it did. -/
def fnExactNextSeenSpec : ChangeSpec := { name := "fnExactNextSeen", fn := fun _ => fun
  | [d1, d2] => { results := [.lit (.bool true)], args := [d1, d2] }
  | _ => none }
def fnExactNextSeenRow : OpenClaim := { program := "ytlgeddbgbcineaa", sum := "d9094374e9dce7d581959bc49b24c22a468d5eeaee5f1ec7c99ef20cc1de373a", func := "loop.example/g01046/laws.FnExactNextSeen", spec := "fnExactNextSeen", unfollowed := true, recurses := true, apart := false }
def FnExactNextSeenSaid : Prop := fnExactNextSeenRow.holds Try.pinned (OpenSpec.ofChange fnExactNextSeenSpec)

/-- ITS FALSE NEIGHBOUR: 'it returns false'. Refute it at one input. -/
def fnExactNextSeenWrong : ChangeSpec := { name := "fnExactNextSeen", fn := fun _ => fun
  | [d1, d2] => { results := [.lit (.bool false)], args := [d1, d2] }
  | _ => none }
def FnExactNextSeenWrongFalsely : Prop := fnExactNextSeenRow.holds Try.pinned (OpenSpec.ofChange fnExactNextSeenWrong)

/-- 'laws.FnExactMayFollow': WHATEVER THE INPUT: true; the input reads as it did. -/
def fnExactMayFollowSpec : ChangeSpec := { name := "fnExactMayFollow", fn := fun _ => fun
  | [d1, d2, d3] => { results := [.lit (.bool true)], args := [d1, d2, d3] }
  | _ => none }
def fnExactMayFollowRow : OpenClaim := { program := "ytlgeddbgbcineaa", sum := "d9094374e9dce7d581959bc49b24c22a468d5eeaee5f1ec7c99ef20cc1de373a", func := "loop.example/g01046/laws.FnExactMayFollow", spec := "fnExactMayFollow", unfollowed := true, recurses := true, apart := false }
def FnExactMayFollowSaid : Prop := fnExactMayFollowRow.holds Try.pinned (OpenSpec.ofChange fnExactMayFollowSpec)

/-- ITS FALSE NEIGHBOUR: 'it returns false'. Refute it at one input. -/
def fnExactMayFollowWrong : ChangeSpec := { name := "fnExactMayFollow", fn := fun _ => fun
  | [d1, d2, d3] => { results := [.lit (.bool false)], args := [d1, d2, d3] }
  | _ => none }
def FnExactMayFollowWrongFalsely : Prop := fnExactMayFollowRow.holds Try.pinned (OpenSpec.ofChange fnExactMayFollowWrong)

/-- 'laws.FnExactValidReadings': WHATEVER THE INPUT: true; the input reads as it did. -/
def fnExactValidReadingsSpec : ChangeSpec := { name := "fnExactValidReadings", fn := fun _ => fun
  | [d1, d2] => { results := [.lit (.bool true)], args := [d1, d2] }
  | _ => none }
def fnExactValidReadingsRow : OpenClaim := { program := "ytlgeddbgbcineaa", sum := "d9094374e9dce7d581959bc49b24c22a468d5eeaee5f1ec7c99ef20cc1de373a", func := "loop.example/g01046/laws.FnExactValidReadings", spec := "fnExactValidReadings", unfollowed := true, recurses := true, apart := false }
def FnExactValidReadingsSaid : Prop := fnExactValidReadingsRow.holds Try.pinned (OpenSpec.ofChange fnExactValidReadingsSpec)

/-- ITS FALSE NEIGHBOUR: 'it returns false'. Refute it at one input. -/
def fnExactValidReadingsWrong : ChangeSpec := { name := "fnExactValidReadings", fn := fun _ => fun
  | [d1, d2] => { results := [.lit (.bool false)], args := [d1, d2] }
  | _ => none }
def FnExactValidReadingsWrongFalsely : Prop := fnExactValidReadingsRow.holds Try.pinned (OpenSpec.ofChange fnExactValidReadingsWrong)

/-- 'laws.FnExactCountSeen': WHATEVER THE INPUT: true; the input reads as it did. -/
def fnExactCountSeenSpec : ChangeSpec := { name := "fnExactCountSeen", fn := fun _ => fun
  | [d1, d2] => { results := [.lit (.bool true)], args := [d1, d2] }
  | _ => none }
def fnExactCountSeenRow : OpenClaim := { program := "ytlgeddbgbcineaa", sum := "d9094374e9dce7d581959bc49b24c22a468d5eeaee5f1ec7c99ef20cc1de373a", func := "loop.example/g01046/laws.FnExactCountSeen", spec := "fnExactCountSeen", unfollowed := true, recurses := true, apart := false }
def FnExactCountSeenSaid : Prop := fnExactCountSeenRow.holds Try.pinned (OpenSpec.ofChange fnExactCountSeenSpec)

/-- ITS FALSE NEIGHBOUR: 'it returns false'. Refute it at one input. -/
def fnExactCountSeenWrong : ChangeSpec := { name := "fnExactCountSeen", fn := fun _ => fun
  | [d1, d2] => { results := [.lit (.bool false)], args := [d1, d2] }
  | _ => none }
def FnExactCountSeenWrongFalsely : Prop := fnExactCountSeenRow.holds Try.pinned (OpenSpec.ofChange fnExactCountSeenWrong)

/-- 'laws.FnExactAreTracks': WHATEVER THE INPUT: true; the input reads as it did. -/
def fnExactAreTracksSpec : ChangeSpec := { name := "fnExactAreTracks", fn := fun _ => fun
  | [d1, d2, d3] => { results := [.lit (.bool true)], args := [d1, d2, d3] }
  | _ => none }
def fnExactAreTracksRow : OpenClaim := { program := "ytlgeddbgbcineaa", sum := "d9094374e9dce7d581959bc49b24c22a468d5eeaee5f1ec7c99ef20cc1de373a", func := "loop.example/g01046/laws.FnExactAreTracks", spec := "fnExactAreTracks", unfollowed := true, recurses := true, apart := false }
def FnExactAreTracksSaid : Prop := fnExactAreTracksRow.holds Try.pinned (OpenSpec.ofChange fnExactAreTracksSpec)

/-- ITS FALSE NEIGHBOUR: 'it returns false'. Refute it at one input. -/
def fnExactAreTracksWrong : ChangeSpec := { name := "fnExactAreTracks", fn := fun _ => fun
  | [d1, d2, d3] => { results := [.lit (.bool false)], args := [d1, d2, d3] }
  | _ => none }
def FnExactAreTracksWrongFalsely : Prop := fnExactAreTracksRow.holds Try.pinned (OpenSpec.ofChange fnExactAreTracksWrong)

/-- 'laws.FnExactLostOn': WHATEVER THE INPUT: true; the input reads as it did. -/
def fnExactLostOnSpec : ChangeSpec := { name := "fnExactLostOn", fn := fun _ => fun
  | [d1, d2, d3] => { results := [.lit (.bool true)], args := [d1, d2, d3] }
  | _ => none }
def fnExactLostOnRow : OpenClaim := { program := "ytlgeddbgbcineaa", sum := "d9094374e9dce7d581959bc49b24c22a468d5eeaee5f1ec7c99ef20cc1de373a", func := "loop.example/g01046/laws.FnExactLostOn", spec := "fnExactLostOn", unfollowed := true, recurses := true, apart := false }
def FnExactLostOnSaid : Prop := fnExactLostOnRow.holds Try.pinned (OpenSpec.ofChange fnExactLostOnSpec)

/-- ITS FALSE NEIGHBOUR: 'it returns false'. Refute it at one input. -/
def fnExactLostOnWrong : ChangeSpec := { name := "fnExactLostOn", fn := fun _ => fun
  | [d1, d2, d3] => { results := [.lit (.bool false)], args := [d1, d2, d3] }
  | _ => none }
def FnExactLostOnWrongFalsely : Prop := fnExactLostOnRow.holds Try.pinned (OpenSpec.ofChange fnExactLostOnWrong)

/-- 'laws.FnExactFewestCarriers': WHATEVER THE INPUT: true; the input reads as it did. -/
def fnExactFewestCarriersSpec : ChangeSpec := { name := "fnExactFewestCarriers", fn := fun _ => fun
  | [d1, d2] => { results := [.lit (.bool true)], args := [d1, d2] }
  | _ => none }
def fnExactFewestCarriersRow : OpenClaim := { program := "ytlgeddbgbcineaa", sum := "d9094374e9dce7d581959bc49b24c22a468d5eeaee5f1ec7c99ef20cc1de373a", func := "loop.example/g01046/laws.FnExactFewestCarriers", spec := "fnExactFewestCarriers", unfollowed := true, recurses := true, apart := false }
def FnExactFewestCarriersSaid : Prop := fnExactFewestCarriersRow.holds Try.pinned (OpenSpec.ofChange fnExactFewestCarriersSpec)

/-- ITS FALSE NEIGHBOUR: 'it returns false'. Refute it at one input. -/
def fnExactFewestCarriersWrong : ChangeSpec := { name := "fnExactFewestCarriers", fn := fun _ => fun
  | [d1, d2] => { results := [.lit (.bool false)], args := [d1, d2] }
  | _ => none }
def FnExactFewestCarriersWrongFalsely : Prop := fnExactFewestCarriersRow.holds Try.pinned (OpenSpec.ofChange fnExactFewestCarriersWrong)

/-- 'laws.FnTracks': WHATEVER THE INPUT: true; the input reads as it did. -/
def fnTracksSpec : ChangeSpec := { name := "fnTracks", fn := fun _ => fun
  | [d] => { results := [.lit (.bool true)], args := [d] }
  | _ => none }
def fnTracksRow : OpenClaim := { program := "ytlgeddbgbcineaa", sum := "d9094374e9dce7d581959bc49b24c22a468d5eeaee5f1ec7c99ef20cc1de373a", func := "loop.example/g01046/laws.FnTracks", spec := "fnTracks", unfollowed := true, recurses := true, apart := false }
def FnTracksSaid : Prop := fnTracksRow.holds Try.pinned (OpenSpec.ofChange fnTracksSpec)

/-- ITS FALSE NEIGHBOUR: 'it returns false'. Refute it at one input. -/
def fnTracksWrong : ChangeSpec := { name := "fnTracks", fn := fun _ => fun
  | [d] => { results := [.lit (.bool false)], args := [d] }
  | _ => none }
def FnTracksWrongFalsely : Prop := fnTracksRow.holds Try.pinned (OpenSpec.ofChange fnTracksWrong)

/-- 'laws.FnExactTracksOf': WHATEVER THE INPUT: true; the input reads as it did. -/
def fnExactTracksOfSpec : ChangeSpec := { name := "fnExactTracksOf", fn := fun _ => fun
  | [d1, d2] => { results := [.lit (.bool true)], args := [d1, d2] }
  | _ => none }
def fnExactTracksOfRow : OpenClaim := { program := "ytlgeddbgbcineaa", sum := "d9094374e9dce7d581959bc49b24c22a468d5eeaee5f1ec7c99ef20cc1de373a", func := "loop.example/g01046/laws.FnExactTracksOf", spec := "fnExactTracksOf", unfollowed := true, recurses := true, apart := false }
def FnExactTracksOfSaid : Prop := fnExactTracksOfRow.holds Try.pinned (OpenSpec.ofChange fnExactTracksOfSpec)

/-- ITS FALSE NEIGHBOUR: 'it returns false'. Refute it at one input. -/
def fnExactTracksOfWrong : ChangeSpec := { name := "fnExactTracksOf", fn := fun _ => fun
  | [d1, d2] => { results := [.lit (.bool false)], args := [d1, d2] }
  | _ => none }
def FnExactTracksOfWrongFalsely : Prop := fnExactTracksOfRow.holds Try.pinned (OpenSpec.ofChange fnExactTracksOfWrong)

/- THE SECOND FORM. 'bulk': how many values and letters a reading holds, each counted each time it is reached (what is shared counts as often as it is met; a slice's spare places count too). A statement '..UptoSaid' is the law's where the arguments, and the package variables that the reading takes, are together of bulk at most 1048576: NARROWER than '..Said'. Prove '..Said' where nothing that the law and all that it calls make is longer than what came in: it says more and counts as full. Else prove '..UptoSaid'. A law counts once. -/
mutual
def uptoBulk {H : Type} : DataW H → Nat
  | .lit (.string bytes) => bytes.length + 1
  | .lit _ => 1
  | .nil => 1
  | .ptr d => uptoBulk d + 1
  | .slice elems spare => uptoBulkAll elems + uptoBulkAll spare + 1
  | .agg parts => uptoBulkAll parts + 1
  | .iface _ d => uptoBulk d + 1
  | .map entries => uptoBulkEntries entries + 1
  | .held _ => 1
def uptoBulkAll {H : Type} : List (DataW H) → Nat
  | [] => 0
  | d :: r => uptoBulk d + uptoBulkAll r
def uptoBulkEntries {H : Type} : List (Lit × DataW H) → Nat
  | [] => 0
  | x :: r => uptoBulkEntry x + uptoBulkEntries r
def uptoBulkEntry {H : Type} : Lit × DataW H → Nat
  | (.string bytes, d) => bytes.length + uptoBulk d + 1
  | (_, d) => uptoBulk d + 1
 end
def uptoSmall : (H : Type) → List (DataW H) → Bool := fun _ ds => decide (uptoBulkAll ds ≤ 1048576)
def OpenSpec.upto (s : _root_.Go.ChangeSpec) : _root_.Go.OpenSpec := { _root_.Go.OpenSpec.ofChange s with cond := some uptoSmall }

/-- 'laws.FnExactValidSensors', WHERE WHAT IT READS IS OF BULK AT MOST 1048576: true; the input reads as it did. -/
def fnExactValidSensorsUptoRow : OpenClaim := { program := "ytlgeddbgbcineaa", sum := "d9094374e9dce7d581959bc49b24c22a468d5eeaee5f1ec7c99ef20cc1de373a", func := "loop.example/g01046/laws.FnExactValidSensors", spec := "fnExactValidSensors", unfollowed := true, recurses := true, apart := false, narrowed := true }
def FnExactValidSensorsUptoSaid : Prop := fnExactValidSensorsUptoRow.holds Try.pinned (OpenSpec.upto fnExactValidSensorsSpec)

/-- 'laws.FnSeenNext', WHERE WHAT IT READS IS OF BULK AT MOST 1048576: true; the input reads as it did. -/
def fnSeenNextUptoRow : OpenClaim := { program := "ytlgeddbgbcineaa", sum := "d9094374e9dce7d581959bc49b24c22a468d5eeaee5f1ec7c99ef20cc1de373a", func := "loop.example/g01046/laws.FnSeenNext", spec := "fnSeenNext", unfollowed := true, recurses := true, apart := false, narrowed := true }
def FnSeenNextUptoSaid : Prop := fnSeenNextUptoRow.holds Try.pinned (OpenSpec.upto fnSeenNextSpec)

/-- 'laws.FnExactNextSeen', WHERE WHAT IT READS IS OF BULK AT MOST 1048576: true; the input reads as it did. -/
def fnExactNextSeenUptoRow : OpenClaim := { program := "ytlgeddbgbcineaa", sum := "d9094374e9dce7d581959bc49b24c22a468d5eeaee5f1ec7c99ef20cc1de373a", func := "loop.example/g01046/laws.FnExactNextSeen", spec := "fnExactNextSeen", unfollowed := true, recurses := true, apart := false, narrowed := true }
def FnExactNextSeenUptoSaid : Prop := fnExactNextSeenUptoRow.holds Try.pinned (OpenSpec.upto fnExactNextSeenSpec)

/-- 'laws.FnExactMayFollow', WHERE WHAT IT READS IS OF BULK AT MOST 1048576: true; the input reads as it did. -/
def fnExactMayFollowUptoRow : OpenClaim := { program := "ytlgeddbgbcineaa", sum := "d9094374e9dce7d581959bc49b24c22a468d5eeaee5f1ec7c99ef20cc1de373a", func := "loop.example/g01046/laws.FnExactMayFollow", spec := "fnExactMayFollow", unfollowed := true, recurses := true, apart := false, narrowed := true }
def FnExactMayFollowUptoSaid : Prop := fnExactMayFollowUptoRow.holds Try.pinned (OpenSpec.upto fnExactMayFollowSpec)

/-- 'laws.FnExactValidReadings', WHERE WHAT IT READS IS OF BULK AT MOST 1048576: true; the input reads as it did. -/
def fnExactValidReadingsUptoRow : OpenClaim := { program := "ytlgeddbgbcineaa", sum := "d9094374e9dce7d581959bc49b24c22a468d5eeaee5f1ec7c99ef20cc1de373a", func := "loop.example/g01046/laws.FnExactValidReadings", spec := "fnExactValidReadings", unfollowed := true, recurses := true, apart := false, narrowed := true }
def FnExactValidReadingsUptoSaid : Prop := fnExactValidReadingsUptoRow.holds Try.pinned (OpenSpec.upto fnExactValidReadingsSpec)

/-- 'laws.FnExactCountSeen', WHERE WHAT IT READS IS OF BULK AT MOST 1048576: true; the input reads as it did. -/
def fnExactCountSeenUptoRow : OpenClaim := { program := "ytlgeddbgbcineaa", sum := "d9094374e9dce7d581959bc49b24c22a468d5eeaee5f1ec7c99ef20cc1de373a", func := "loop.example/g01046/laws.FnExactCountSeen", spec := "fnExactCountSeen", unfollowed := true, recurses := true, apart := false, narrowed := true }
def FnExactCountSeenUptoSaid : Prop := fnExactCountSeenUptoRow.holds Try.pinned (OpenSpec.upto fnExactCountSeenSpec)

/-- 'laws.FnExactAreTracks', WHERE WHAT IT READS IS OF BULK AT MOST 1048576: true; the input reads as it did. -/
def fnExactAreTracksUptoRow : OpenClaim := { program := "ytlgeddbgbcineaa", sum := "d9094374e9dce7d581959bc49b24c22a468d5eeaee5f1ec7c99ef20cc1de373a", func := "loop.example/g01046/laws.FnExactAreTracks", spec := "fnExactAreTracks", unfollowed := true, recurses := true, apart := false, narrowed := true }
def FnExactAreTracksUptoSaid : Prop := fnExactAreTracksUptoRow.holds Try.pinned (OpenSpec.upto fnExactAreTracksSpec)

/-- 'laws.FnExactLostOn', WHERE WHAT IT READS IS OF BULK AT MOST 1048576: true; the input reads as it did. -/
def fnExactLostOnUptoRow : OpenClaim := { program := "ytlgeddbgbcineaa", sum := "d9094374e9dce7d581959bc49b24c22a468d5eeaee5f1ec7c99ef20cc1de373a", func := "loop.example/g01046/laws.FnExactLostOn", spec := "fnExactLostOn", unfollowed := true, recurses := true, apart := false, narrowed := true }
def FnExactLostOnUptoSaid : Prop := fnExactLostOnUptoRow.holds Try.pinned (OpenSpec.upto fnExactLostOnSpec)

/-- 'laws.FnExactFewestCarriers', WHERE WHAT IT READS IS OF BULK AT MOST 1048576: true; the input reads as it did. -/
def fnExactFewestCarriersUptoRow : OpenClaim := { program := "ytlgeddbgbcineaa", sum := "d9094374e9dce7d581959bc49b24c22a468d5eeaee5f1ec7c99ef20cc1de373a", func := "loop.example/g01046/laws.FnExactFewestCarriers", spec := "fnExactFewestCarriers", unfollowed := true, recurses := true, apart := false, narrowed := true }
def FnExactFewestCarriersUptoSaid : Prop := fnExactFewestCarriersUptoRow.holds Try.pinned (OpenSpec.upto fnExactFewestCarriersSpec)

/-- 'laws.FnTracks', WHERE WHAT IT READS IS OF BULK AT MOST 1048576: true; the input reads as it did. -/
def fnTracksUptoRow : OpenClaim := { program := "ytlgeddbgbcineaa", sum := "d9094374e9dce7d581959bc49b24c22a468d5eeaee5f1ec7c99ef20cc1de373a", func := "loop.example/g01046/laws.FnTracks", spec := "fnTracks", unfollowed := true, recurses := true, apart := false, narrowed := true }
def FnTracksUptoSaid : Prop := fnTracksUptoRow.holds Try.pinned (OpenSpec.upto fnTracksSpec)

/-- 'laws.FnExactTracksOf', WHERE WHAT IT READS IS OF BULK AT MOST 1048576: true; the input reads as it did. -/
def fnExactTracksOfUptoRow : OpenClaim := { program := "ytlgeddbgbcineaa", sum := "d9094374e9dce7d581959bc49b24c22a468d5eeaee5f1ec7c99ef20cc1de373a", func := "loop.example/g01046/laws.FnExactTracksOf", spec := "fnExactTracksOf", unfollowed := true, recurses := true, apart := false, narrowed := true }
def FnExactTracksOfUptoSaid : Prop := fnExactTracksOfUptoRow.holds Try.pinned (OpenSpec.upto fnExactTracksOfSpec)

end Rows
end Go.Proofs.Ytlgeddbgbcineaa
