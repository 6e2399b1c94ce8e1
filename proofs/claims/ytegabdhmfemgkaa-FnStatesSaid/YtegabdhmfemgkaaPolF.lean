/-
ValidPlaces and its code, of the program. Condition: the slices read as lists.
-/
import Derived.Test.YtegabdhmfemgkaaPolE
namespace Go.Proofs.Ytegabdhmfemgkaa
open Go.RowKit
set_option linter.unusedVariables false

theorem newTravels_any (v u : Value) (halls : List Int) (ways : List (List Int)) (w : World) (hv : SlI w v halls) (hu : SlII w u ways) :
    Calls Try.prog 63 #[v, u] w fun e w' => e = .returned (.agg #[v, u, .int .i64 (ways.length : Int)]) ∧ Below w.heap.size w w' := by
  obtain ⟨A, d, rfl, hla, ha⟩ := hv.op
  obtain ⟨B, f, rfl, hlb, hat⟩ := hu.op
  clear hv hu ha hat
  go_enter Try.func63, Try.ntmps63
  go_wp2
  refine bodyPost_ret (v := .agg #[.slice A halls.length d, .slice B ways.length f, .int .i64 (ways.length : Int)]) (by simp [results, Try.results63, go_sem]) rfl ⟨rfl, below_alloc _ _⟩

set_option maxHeartbeats 1000000 in
theorem validPlaces_any (v u r : Value) (halls : List Int) (ways : List (List Int)) (pl : List Int) (w : World) (hv : SlI w v halls) (hu : SlII w u ways) (hr : SlI w r pl) :
    Calls Try.prog 41 #[v, u, r] w fun e w' => e = .returned (.bool (placesOk halls ways pl)) ∧ Below w.heap.size w w' := by
  have HV := Lib.hid hv; have HU := Lib.hid hu; have HR := Lib.hid hr
  obtain ⟨A, d, rfl, hla, ha⟩ := hv.op
  obtain ⟨B, f, rfl, hlb, hat⟩ := hu.op
  obtain ⟨R, g, rfl, hlr, hrt⟩ := hr.op
  clear hv hu hr ha hat hrt
  have HP : Hid (placesOk halls ways pl = (travOk halls ways && plOk halls ways pl)) := Lib.hid rfl
  go_enter Try.func41, Try.ntmps41
  go_wp2_with fail
  refine (validTravels_any _ _ halls ways _ HV.out HU.out).mono ?_
  rintro e w1 ⟨rfl, hb1⟩
  have HB1 := Lib.hid hb1
  clear hb1
  cases ht : travOk halls ways with
  | false =>
    rw [ht] at HP
    go_wp2
    go_ret
    exact ⟨ret_bool HP.out.symm, HB1.out⟩
  | true =>
    rw [ht] at HP
    obtain ⟨⟨-, h6⟩, -, h4, hway⟩ := travOk_at ht
    have HWAY := Lib.hid hway
    clear hway ht
    go_wp2_with fail
    refine (newTravels_any _ _ halls ways _ (HV.out.ex HB1.out) (HU.out.ex HB1.out)).mono ?_
    rintro e w2 ⟨rfl, hb2⟩
    have HB2 := Lib.hid (below_next0 HB1.out hb2)
    clear hb2
    go_wp2_with fail
    refine (stateOf_any _ _ _ halls ways _ pl _ (HV.out.ex HB2.out) (HU.out.ex HB2.out) (HR.out.ex HB2.out) h6 h4 HWAY.out).mono ?_
    rintro e w3 ⟨⟨a0, a1, a2, a3, rfl, hst⟩, hb3⟩
    have HB3 := Lib.hid (below_next0 HB2.out hb3)
    clear hb3 hst
    go_wp2
    go_ret
    exact ⟨ret_bool (by rw [HP.out]; simp), HB3.out.alloc (by have := HB3.out.size; omega) _⟩

def codePl (halls : List Int) (ways : List (List Int)) (pl : List Int) : Int := if travOk halls ways = true then (if plOk halls ways pl = true then 0 else 2) else 1

set_option maxHeartbeats 1000000 in
theorem placesCode_any (v u r : Value) (halls : List Int) (ways : List (List Int)) (pl : List Int) (w : World) (hv : SlI w v halls) (hu : SlII w u ways) (hr : SlI w r pl) :
    Calls Try.prog 79 #[v, u, r] w fun e w' => e = .returned (.int .i64 (codePl halls ways pl)) ∧ Below w.heap.size w w' := by
  have HV := Lib.hid hv; have HU := Lib.hid hu; have HR := Lib.hid hr
  clear hv hu hr
  have HC : Hid (codePl halls ways pl = if travOk halls ways = true then (if plOk halls ways pl = true then 0 else 2) else 1) := Lib.hid rfl
  have HP : Hid (placesOk halls ways pl = (travOk halls ways && plOk halls ways pl)) := Lib.hid rfl
  go_enter Try.func79, Try.ntmps79
  go_wp2_with fail
  refine (validTravels_any _ _ halls ways _ HV.out HU.out).mono ?_
  rintro e w1 ⟨rfl, hb1⟩
  have HB1 := Lib.hid hb1
  clear hb1
  cases ht : travOk halls ways with
  | false =>
    rw [ht] at HC
    go_wp2
    go_ret
    exact ⟨ret_int (by rw [HC.out]; rfl), HB1.out⟩
  | true =>
    rw [ht] at HC HP
    go_wp2_with fail
    refine (validPlaces_any _ _ _ halls ways pl _ (HV.out.ex HB1.out) (HU.out.ex HB1.out) (HR.out.ex HB1.out)).mono ?_
    rintro e w2 ⟨rfl, hb2⟩
    have HB2 := Lib.hid (below_next0 HB1.out hb2)
    clear hb2
    rw [HP.out]
    cases hp : plOk halls ways pl
    all_goals
      rw [hp] at HC
      go_wp2
      go_ret
      exact ⟨ret_int (by rw [HC.out]; rfl), HB2.out⟩
end Go.Proofs.Ytegabdhmfemgkaa
