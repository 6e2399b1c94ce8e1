/-
FewestCarriers of the program. Condition: the slices read as lists.
-/
import Derived.Test.YtlgeddbgbcineaaMst
namespace Go.Proofs.Ytlgeddbgbcineaa
open Go.RowKit
set_option linter.unusedVariables false

def fewR (gs : List (List Int)) (ts : List Reading) : Int × Int := if readsOk gs ts = true then (((fewG gs ts : Nat) : Int), 0) else (0, 1)
theorem fewG_int (gs : List (List Int)) (ts : List Reading) : (ts.length : Int) - ((mostK (edG gs ts) ts.length : Nat) : Int) = ((fewG gs ts : Nat) : Int) := by
  have := most_le (edG gs ts) ts.length
  unfold fewG; omega
set_option maxRecDepth 100000 in
set_option maxHeartbeats 4000000 in
theorem implFewest_any (v u : Value) (gs : List (List Int)) (ts : List Reading) (w : World) (hv : SlII w v gs) (hu : SlReading w u ts) :
    Calls Try.prog 44 #[v, u] w fun e w' => e = .returned (.tuple #[.int .i64 (fewR gs ts).1, .int .i64 (fewR gs ts).2]) ∧ Below w.heap.size w w' := by
  have HV := Lib.hid hv; have HU := Lib.hid hu
  obtain ⟨Ar, cr, rfl, hlr, har⟩ := hu.op
  clear hv hu har
  have HR : Hid (fewR gs ts = if readsOk gs ts = true then (((fewG gs ts : Nat) : Int), 0) else (0, 1)) := Lib.hid rfl
  cases hok : readsOk gs ts with
  | false =>
    have HC := Lib.hid (validReadings_any _ _ gs ts w HV.out HU.out)
    rw [hok] at HC HR
    clear hok
    go_enter Try.func44, Try.ntmps44
    go_wp2_with fail
    refine HC.out.mono ?_
    rintro e w1 ⟨rfl, hb1⟩
    have HB1 := Lib.hid hb1
    clear hb1
    go_wp2
    go_ret2
    exact ⟨by rw [HR.out]; rfl, HB1.out⟩
  | true =>
    have HC := Lib.hid (validReadings_any _ _ gs ts w HV.out HU.out)
    have HOK := Lib.hid hok
    have h14 := (readsOk_ok hok).2.1
    have HFI := Lib.hid (fewG_int gs ts)
    have hml := most_le (edG gs ts) ts.length
    rw [hok] at HC HR
    clear hok
    go_enter Try.func44, Try.ntmps44
    go_wp2_with fail
    refine HC.out.mono ?_
    rintro e w1 ⟨rfl, hb1⟩
    have HB1 := Lib.hid hb1
    clear hb1
    go_wp2_with fail
    refine (mayTable_any _ _ gs ts w1 (HV.out.ex HB1.out) (HU.out.ex HB1.out) HOK.out).mono ?_
    rintro e w2 ⟨A2, c2, us, rfl, ho2, hb2⟩
    have HB2 := Lib.hid (below_next0 HB1.out hb2)
    have HT2 := Lib.hid (show SlTab w2 (.slice A2 ts.length c2) (edG gs ts) ts.length from ho2.sl)
    clear ho2 hb2
    go_wp2_with fail
    refine (most_any _ (edG gs ts) ts.length h14 w2 HT2.out).mono ?_
    rintro e w3 ⟨rfl, hb3⟩
    have HB3 := Lib.hid (below_next0 HB2.out hb3)
    clear hb3
    generalize mostK (edG gs ts) ts.length = q at HFI hml
    go_wp2
    go_ret2
    exact ⟨by rw [HR.out, ← HFI.out]; rfl, HB3.out⟩
end Go.Proofs.Ytlgeddbgbcineaa
