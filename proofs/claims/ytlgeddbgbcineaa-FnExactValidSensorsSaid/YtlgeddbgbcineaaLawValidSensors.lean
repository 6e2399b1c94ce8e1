/-
FnExactValidSensors returns true for all gaps: the program's ValidSensors and the reference's answer alike, and the argument stays as it was. No condition beyond the form's own reach.
-/
import Derived.Test.YtlgeddbgbcineaaRows
import Derived.Test.YtlgeddbgbcineaaLaw
import Derived.Test.YtlgeddbgbcineaaSensA
import Derived.Test.YtlgeddbgbcineaaIntss
namespace Go.Proofs.Ytlgeddbgbcineaa
open Go.ChangeShapes Go.WideShapes Go.ChangeAt Go.RowKit Go.Deep Go.Joins
set_option linter.unusedVariables false

theorem lawValidSensors_any (v : Value) (gs : List (List Int)) (w : World) (hv : SlII w v gs) : Calls Try.prog 3 #[v] w fun e w' => e = .returned (.bool true) ∧ Below w.heap.size w w' := by
  have HV := Lib.hid hv
  clear hv
  go_enter Try.func3, Try.ntmps3
  go_wp2_with fail
  refine (szInt64SS_any _ gs _ _ HV.out (by omega) (by omega)).mono ?_
  rintro e w1 ⟨⟨r, rfl, hr⟩, rfl⟩
  by_cases hneg : r < 0
  · clear hr
    go_wp2
    go_ret
    exact ⟨rfl, Below.refl _ _⟩
  · have hsm : gs.length ≤ 1048576 := by unfold total at hr; omega
    clear hr
    go_wp2_with fail
    refine (toInt64SS_any _ gs _ HV.out hsm).mono ?_
    rintro e w1 ⟨A1, c1, us1, rfl, ho1, hb1⟩
    go_wp2_with fail
    refine (specValidSensors_any _ gs _ ho1.sl).mono ?_
    rintro e w2 ⟨rfl, hb2⟩
    replace hb2 := below_next0 hb1 hb2
    go_wp2_with fail
    refine (toInt64SS_any _ gs _ (HV.out.ex hb2) hsm).mono ?_
    rintro e w3 ⟨A3, c3, us3, rfl, ho3, hb3⟩
    go_wp2_with fail
    refine (validSensors_any _ gs _ ho3.sl).mono ?_
    rintro e w4 ⟨rfl, hb4⟩
    replace ho3 := ho3.ex hb4
    replace hb4 := below_next0 (below_next0 hb2 hb3) hb4
    go_wp2_with fail
    refine (toInt64SS_any _ gs _ (HV.out.ex hb4) hsm).mono ?_
    rintro e w5 ⟨A5, c5, us5, rfl, ho5, hb5⟩
    replace ho3 := ho3.ex hb5
    go_wp2_with fail
    refine (eqInt64SS_any _ _ gs gs _ ho3.sl ho5.sl).mono ?_
    rintro e w6 ⟨rfl, hb6⟩
    simp only [decide_true]
    go_wp2
    go_ret
    exact ⟨rfl, below_next0 (below_next0 hb4 hb5) hb6⟩

set_option maxRecDepth 100000 in
theorem validSensors_lifted (os : Os) (started : os.Started) (H : Type) (enc : TypeId × Value → H) :
    ReturnsInHanded {} Try.checked os 3 .any (Rows.fnExactValidSensorsSpec.pre6 enc Try.checked.prog Try.f3 Rows.fnExactValidSensorsRow.domain false) (Rows.fnExactValidSensorsSpec.post enc Try.checked.prog Try.f3 false true false false) := by
  refine law_lifted os started H enc (by kernel_rfl) Try.func3
    (ChangeSpec.witness6 (enc := enc) (C := Try.checked) false ⟨#[], #[.slice none 0 0], []⟩ 8 (by kernel_rfl) (by kernel_rfl) (by kernel_rfl) (by kernel_rfl))
    rfl rfl rfl (by rw [Try.params3]; intro t ht; simp only [List.mem_cons, List.not_mem_nil, or_false] at ht; subst ht; exact ⟨by kernel_rfl, of_decide_eq_true (by kernel_rfl)⟩)
    (fun ds hl => by match ds, hl with | [d], _ => exact ⟨rfl, rfl, rfl⟩) ?_
  intro W base args ds p hval hA hlt hsz
  rw [Try.params3] at hA hval hsz
  obtain ⟨v0, vs0, d0, ds0, p0, q0, hargs, rfl, rfl, h0, r0⟩ := trodAll_cons hA
  obtain ⟨rfl, rfl, rfl⟩ := trodAll_nil r0
  obtain rfl : args = #[v0] := by cases args; simp_all
  obtain ⟨gs, hgs⟩ := argII Try.underlying22 Try.underlying49 Try.underlying2 (by kernel_rfl) (by kernel_rfl) (by kernel_rfl) (by kernel_rfl) (hval 0 _ _ rfl rfl) h0 (weight_arg hsz (j := 0) rfl rfl)
  exact lawValidSensors_any _ gs W hgs

theorem validSensors_holds : Rows.FnExactValidSensorsSaid :=
  OpenClaim.holds_of_wide 3 Try.f3 rfl rfl rfl rfl rfl rfl rfl ⟨rfl, rfl, rfl, rfl, rfl⟩ rfl rfl rfl rfl rfl (by kernel_rfl) Try.func3 (by kernel_rfl)
    (of_decide_eq_true (by kernel_rfl)) (by unfold Func.isWrapper; first | (rw [if_pos (by decide +kernel)]; kernel_rfl) | (rw [if_neg (by decide +kernel)]; exact ⟨rfl, rfl⟩))
    (fun os started H enc _ => validSensors_lifted os started H enc)
#print axioms validSensors_holds
end Go.Proofs.Ytlgeddbgbcineaa
