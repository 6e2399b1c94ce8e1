/-
  DERIVED. GIVEN WITH THE SEED: THE CARDS: each row of YthpijecjifmnbaaDoorRows.lean that lists a variable, with what it lists TIED to the program's text (the seventh form; the later family's looks); each row that meets fmt, with fmt's text TOLD by the authors' own Lean function (tested against real Go, not proved from fmt's source: count such statements apart). THE CARD IS WHAT COUNTS. Prove the row's statement (the work); the ties are given (YthpijecjifmnbaaDoorTie.lean); close each card by the builder's one call (the guide's Derived/Test/ToyasCard.lean, 'card_holds'). Laid BY PROGRAM, IN A SANDBOX (cutbox-door.mjs). By AI agents, Wed Nov 11 2026. No macro, syntax, notation, axiom, sorry.
-/
import Derived.Test.YthpijecjifmnbaaDoorRows
import GoSem.ClaimSeven
namespace Go.Proofs.YthpijecjifmnbaaDoor
namespace Rows

/-- THE TIED CARD OF 'laws.FnExactTripText'. -/
def fnExactTripTextCard : Claim7 := { stood := { row := fnExactTripTextRow, standIns := [], harness := (true, "8dd30daec8ddd28bb3cee6adb8d8ed64ac9fd3c9382fbb0fbda2d60fbe9aa90a"), looks := false }, kinds := [], alts := [], laidByText := true, laidKinds := [.data, .data, .data], laidTests := true, laidLooks := .later }
def FnExactTripTextCardSaid : Prop := Claim7.holds Tryd.pinned (.plain (OpenSpec.ofChange fnExactTripTextSpec)) fnExactTripTextCard

/-- THE TIED CARD OF 'laws.FnDelays'. -/
def fnDelaysCard : Claim7 := { stood := { row := fnDelaysRow, standIns := [], harness := (true, "8dd30daec8ddd28bb3cee6adb8d8ed64ac9fd3c9382fbb0fbda2d60fbe9aa90a"), looks := false }, kinds := [], alts := [], laidByText := true, laidKinds := [.data, .data, .data], laidTests := true, laidLooks := .later }
def FnDelaysCardSaid : Prop := Claim7.holds Tryd.pinned (.plain (OpenSpec.ofChange fnDelaysSpec)) fnDelaysCard

/-- THE SECOND FORM's CARD OF 'laws.FnExactTripText'. -/
def fnExactTripTextUptoCard : Claim7 := { stood := { row := fnExactTripTextUptoRow, standIns := [], harness := (true, "8dd30daec8ddd28bb3cee6adb8d8ed64ac9fd3c9382fbb0fbda2d60fbe9aa90a"), looks := false }, kinds := [], alts := [], laidByText := true, laidKinds := [.data, .data, .data], laidTests := true, laidLooks := .later }
def FnExactTripTextUptoCardSaid : Prop := Claim7.holds Tryd.pinned (.plain (OpenSpec.upto fnExactTripTextSpec)) fnExactTripTextUptoCard

/-- THE SECOND FORM's CARD OF 'laws.FnDelays'. -/
def fnDelaysUptoCard : Claim7 := { stood := { row := fnDelaysUptoRow, standIns := [], harness := (true, "8dd30daec8ddd28bb3cee6adb8d8ed64ac9fd3c9382fbb0fbda2d60fbe9aa90a"), looks := false }, kinds := [], alts := [], laidByText := true, laidKinds := [.data, .data, .data], laidTests := true, laidLooks := .later }
def FnDelaysUptoCardSaid : Prop := Claim7.holds Tryd.pinned (.plain (OpenSpec.upto fnDelaysSpec)) fnDelaysUptoCard
end Rows
end Go.Proofs.YthpijecjifmnbaaDoor
