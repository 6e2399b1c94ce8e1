/-
FnExactWorstStation returns true for all arguments: the program's WorstStation and the reference's return the same, and the arguments stay as they were. No condition beyond the form's own reach.
-/
import Derived.Test.YthpijecjifmnbaaRows
import Derived.Test.YthpijecjifmnbaaLaw
import Derived.Test.YthpijecjifmnbaaDelJ
import Derived.Test.YthpijecjifmnbaaArgTrip
namespace Go.Proofs.Ythpijecjifmnbaa
open Go.ChangeShapes Go.WideShapes Go.ChangeAt Go.RowKit Go.Deep Go.Joins
set_option linter.unusedVariables false

set_option maxHeartbeats 2000000 in
theorem lawWorstStation_any (v0 : Value) (x0 : List Trip) (w : World) (h0 : SlTrip w v0 x0)  : Calls Try.prog 6 #[v0] w fun e w' => e = .returned (.bool true) ∧ Below w.heap.size w w' := by
  have hs := fun (u0 : Value) (W : World) (k0 : SlTrip W u0 x0) => specWorst_any u0 x0 W k0 
  have hi := fun (u0 : Value) (W : World) (k0 : SlTrip W u0 x0) => implWorst_any u0 x0 W k0 
  generalize (worstR x0).1 = r0 at hs hi
  generalize (worstR x0).2 = r1 at hs hi
  have HS := Lib.hid hs; have HI := Lib.hid hi
  clear hs hi
  have HV0 := Lib.hid h0
  obtain ⟨A0, c0, rfl, hl0, _⟩ := h0.op
  clear h0
  go_enter Try.func6, Try.ntmps6
  go_wp2_with fail
  refine (szTripS_any _ _ _ _ _ hl0 (by omega) (by omega)).mono ?_
  rintro e w1 ⟨rfl, rfl⟩
  generalize hse0 : szOf 1048576 x0.length = s0
  have hs0 := szOf_or hse0.symm
  clear hse0
  by_cases g0 : s0 < 0
  · clear hs0
    go_wp2
    go_ret
    exact ⟨rfl, Below.refl _ _⟩
  have z0 : x0.length ≤ 1048576 := by omega
  have q0 : 0 ≤ s0 ∧ s0 ≤ 1048576 := by omega
  obtain ⟨qa0, qb0⟩ := q0
  clear hs0
  have hb := Below.refl w.heap.size w
  go_wp2_with fail
  refine (toTripS_any _ x0 _ (HV0.out.ex hb) z0).mono ?_
  rintro e w2 ⟨As0, cs0, rfl, os0, hn⟩
  replace hb := below_next0 hb hn
  clear hn
  go_wp2_with fail
  refine (HS.out _ _ os0.sl).mono ?_
  rintro e w3 ⟨rfl, hn⟩
  replace os0 := os0.ex hn
  replace hb := below_next0 hb hn
  clear hn
  clear os0
  go_wp2_with fail
  refine (toTripS_any _ x0 _ (HV0.out.ex hb) z0).mono ?_
  rintro e w4 ⟨Ax0, cx0, rfl, ox0, hn⟩
  replace hb := below_next0 hb hn
  clear hn
  go_wp2_with fail
  refine (HI.out _ _ ox0.sl).mono ?_
  rintro e w5 ⟨rfl, hn⟩
  replace ox0 := ox0.ex hn
  replace hb := below_next0 hb hn
  clear hn
  go_wp2_with fail
  refine (toTripS_any _ x0 _ (HV0.out.ex hb) z0).mono ?_
  rintro e w6 ⟨Ay0, cy0, rfl, oy0, hn⟩
  replace ox0 := ox0.ex hn
  replace hb := below_next0 hb hn
  clear hn
  go_wp2_with fail
  refine (eqTripS_any _ _ x0 x0 _ ox0.sl oy0.sl).mono ?_
  rintro e w7 ⟨rfl, hn⟩
  replace ox0 := ox0.ex hn
  replace oy0 := oy0.ex hn
  replace hb := below_next0 hb hn
  clear hn
  simp only [decide_true]
  clear oy0
  go_wp2
  go_ret
  exact ⟨rfl, hb⟩

set_option maxRecDepth 100000 in
theorem worstStation_lifted (os : Os) (started : os.Started) (H : Type) (enc : TypeId × Value → H) :
    ReturnsInHanded {} Try.checked os 6 .any (Rows.fnExactWorstStationSpec.pre6 enc Try.checked.prog Try.f6 Rows.fnExactWorstStationRow.domain false) (Rows.fnExactWorstStationSpec.post enc Try.checked.prog Try.f6 false true false false) := by
  refine law_lifted os started H enc (by kernel_rfl) Try.func6
    (ChangeSpec.witness6 (enc := enc) (C := Try.checked) false ⟨#[], #[.slice none 0 0], []⟩ 8 (by kernel_rfl) (by kernel_rfl) (by kernel_rfl) (by kernel_rfl))
    rfl rfl rfl (by rw [Try.params6]; intro t ht; simp only [List.mem_cons, List.not_mem_nil, or_false] at ht; rcases ht with rfl <;> exact ⟨by kernel_rfl, of_decide_eq_true (by kernel_rfl)⟩)
    (fun ds hl => by match ds, hl with | [d0], _ => exact ⟨rfl, rfl, rfl⟩) ?_
  intro W base args ds p hval hA hlt hsz
  rw [Try.params6] at hA hval hsz
  obtain ⟨v0, vs0, d0, ds0, p0, q0, hargs, rfl, rfl, h0, r0⟩ := trodAll_cons hA
  obtain ⟨rfl, rfl, rfl⟩ := trodAll_nil r0
  obtain rfl : args = #[v0] := by cases args; simp_all
  obtain ⟨x0, hx0⟩ := argTrip Try.underlying29 Try.underlying23 Try.underlying2 rfl (by kernel_rfl) (by kernel_rfl) (by kernel_rfl) (hval 0 _ _ rfl rfl) h0 (weight_arg hsz (j := 0) rfl rfl)
  exact lawWorstStation_any _ x0 W hx0 

theorem worstStation_holds : Rows.FnExactWorstStationSaid :=
  OpenClaim.holds_of_wide 6 Try.f6 rfl rfl rfl rfl rfl rfl rfl ⟨rfl, rfl, rfl, rfl, rfl⟩ rfl rfl rfl rfl rfl (by kernel_rfl) Try.func6 (by kernel_rfl)
    (of_decide_eq_true (by kernel_rfl)) (by unfold Func.isWrapper; first | (rw [if_pos (by decide +kernel)]; kernel_rfl) | (rw [if_neg (by decide +kernel)]; exact ⟨rfl, rfl⟩))
    (fun os started H enc _ => worstStation_lifted os started H enc)
#print axioms worstStation_holds
end Go.Proofs.Ythpijecjifmnbaa
