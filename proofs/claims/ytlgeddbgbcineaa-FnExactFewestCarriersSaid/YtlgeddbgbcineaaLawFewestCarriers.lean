/-
FnExactFewestCarriers returns true for all arguments: the program's FewestCarriers and the reference's return the same, and the arguments stay as they were. No condition beyond the form's own reach.
-/
import Derived.Test.YtlgeddbgbcineaaRows
import Derived.Test.YtlgeddbgbcineaaLaw
import Derived.Test.YtlgeddbgbcineaaPrs
import Derived.Test.YtlgeddbgbcineaaIntss
import Derived.Test.YtlgeddbgbcineaaArgReading
namespace Go.Proofs.Ytlgeddbgbcineaa
open Go.ChangeShapes Go.WideShapes Go.ChangeAt Go.RowKit Go.Deep Go.Joins
set_option linter.unusedVariables false

set_option maxHeartbeats 2000000 in
theorem lawFewestCarriers_any (v0 : Value) (x0 : List (List Int)) (v1 : Value) (x1 : List Reading) (w : World) (h0 : SlII w v0 x0) (h1 : SlReading w v1 x1)  : Calls Try.prog 11 #[v0, v1] w fun e w' => e = .returned (.bool true) ∧ Below w.heap.size w w' := by
  have hs := fun (u0 : Value) (u1 : Value) (W : World) (k0 : SlII W u0 x0) (k1 : SlReading W u1 x1) => specFewest_any u0 u1 x0 x1 W k0 k1 
  have hi := fun (u0 : Value) (u1 : Value) (W : World) (k0 : SlII W u0 x0) (k1 : SlReading W u1 x1) => implFewest_any u0 u1 x0 x1 W k0 k1 
  generalize (fewR x0 x1).1 = r0 at hs hi
  generalize (fewR x0 x1).2 = r1 at hs hi
  have HS := Lib.hid hs; have HI := Lib.hid hi
  clear hs hi
  have HV0 := Lib.hid h0
  have HV1 := Lib.hid h1
  obtain ⟨A1, c1, rfl, hl1, _⟩ := h1.op
  clear h0
  clear h1
  go_enter Try.func11, Try.ntmps11
  go_wp2_with fail
  refine (szInt64SS_any _ x0 _ _ HV0.out (by omega) (by omega)).mono ?_
  rintro e w1 ⟨⟨s0, rfl, hs0⟩, rfl⟩
  by_cases g0 : s0 < 0
  · clear hs0
    go_wp2
    go_ret
    exact ⟨rfl, Below.refl _ _⟩
  have z0 : x0.length ≤ 1048576 := by unfold total at hs0; omega
  have q0 : 0 ≤ s0 ∧ s0 ≤ 1048576 := by unfold total at hs0; omega
  obtain ⟨qa0, qb0⟩ := q0
  clear hs0
  go_wp2_with fail
  refine (szReadingS_any _ _ _ _ _ hl1 (by omega) (by omega)).mono ?_
  rintro e w1 ⟨rfl, rfl⟩
  generalize hse1 : szOf s0 x1.length = s1
  have hs1 := szOf_or hse1.symm
  clear hse1
  by_cases g1 : s1 < 0
  · clear hs1
    go_wp2
    go_ret
    exact ⟨rfl, Below.refl _ _⟩
  have z1 : x1.length ≤ 1048576 := by omega
  have q1 : 0 ≤ s1 ∧ s1 ≤ 1048576 := by omega
  obtain ⟨qa1, qb1⟩ := q1
  clear hs1
  have hb := Below.refl w.heap.size w
  go_wp2_with fail
  refine (toInt64SS_any _ x0 _ (HV0.out.ex hb) z0).mono ?_
  rintro e w2 ⟨As0, cs0, uss0, rfl, os0, hn⟩
  replace hb := below_next0 hb hn
  clear hn
  go_wp2_with fail
  refine (toReadingS_any _ x1 _ (HV1.out.ex hb) z1).mono ?_
  rintro e w3 ⟨As1, cs1, rfl, os1, hn⟩
  replace os0 := os0.ex hn
  replace hb := below_next0 hb hn
  clear hn
  go_wp2_with fail
  refine (HS.out _ _ _ os0.sl os1.sl).mono ?_
  rintro e w4 ⟨rfl, hn⟩
  replace os0 := os0.ex hn
  replace os1 := os1.ex hn
  replace hb := below_next0 hb hn
  clear hn
  clear os0
  clear os1
  go_wp2_with fail
  refine (toInt64SS_any _ x0 _ (HV0.out.ex hb) z0).mono ?_
  rintro e w5 ⟨Ax0, cx0, usx0, rfl, ox0, hn⟩
  replace hb := below_next0 hb hn
  clear hn
  go_wp2_with fail
  refine (toReadingS_any _ x1 _ (HV1.out.ex hb) z1).mono ?_
  rintro e w6 ⟨Ax1, cx1, rfl, ox1, hn⟩
  replace ox0 := ox0.ex hn
  replace hb := below_next0 hb hn
  clear hn
  go_wp2_with fail
  refine (HI.out _ _ _ ox0.sl ox1.sl).mono ?_
  rintro e w7 ⟨rfl, hn⟩
  replace ox0 := ox0.ex hn
  replace ox1 := ox1.ex hn
  replace hb := below_next0 hb hn
  clear hn
  go_wp2_with fail
  refine (toInt64SS_any _ x0 _ (HV0.out.ex hb) z0).mono ?_
  rintro e w8 ⟨Ay0, cy0, usy0, rfl, oy0, hn⟩
  replace ox0 := ox0.ex hn
  replace ox1 := ox1.ex hn
  replace hb := below_next0 hb hn
  clear hn
  go_wp2_with fail
  refine (eqInt64SS_any _ _ x0 x0 _ ox0.sl oy0.sl).mono ?_
  rintro e w9 ⟨rfl, hn⟩
  replace ox0 := ox0.ex hn
  replace ox1 := ox1.ex hn
  replace oy0 := oy0.ex hn
  replace hb := below_next0 hb hn
  clear hn
  simp only [decide_true]
  clear oy0
  go_wp2_with fail
  refine (toReadingS_any _ x1 _ (HV1.out.ex hb) z1).mono ?_
  rintro e w10 ⟨Ay1, cy1, rfl, oy1, hn⟩
  replace ox0 := ox0.ex hn
  replace ox1 := ox1.ex hn
  replace hb := below_next0 hb hn
  clear hn
  go_wp2_with fail
  refine (eqReadingS_any _ _ x1 x1 _ ox1.sl oy1.sl).mono ?_
  rintro e w11 ⟨rfl, hn⟩
  replace ox0 := ox0.ex hn
  replace ox1 := ox1.ex hn
  replace oy1 := oy1.ex hn
  replace hb := below_next0 hb hn
  clear hn
  simp only [decide_true]
  clear oy1
  go_wp2
  go_ret
  exact ⟨rfl, hb⟩

set_option maxRecDepth 100000 in
theorem fewestCarriers_lifted (os : Os) (started : os.Started) (H : Type) (enc : TypeId × Value → H) :
    ReturnsInHanded {} Try.checked os 11 .any (Rows.fnExactFewestCarriersSpec.pre6 enc Try.checked.prog Try.f11 Rows.fnExactFewestCarriersRow.domain false) (Rows.fnExactFewestCarriersSpec.post enc Try.checked.prog Try.f11 false true false false) := by
  refine law_lifted os started H enc (by kernel_rfl) Try.func11
    (ChangeSpec.witness6 (enc := enc) (C := Try.checked) false ⟨#[], #[.slice none 0 0, .slice none 0 0], []⟩ 8 (by kernel_rfl) (by kernel_rfl) (by kernel_rfl) (by kernel_rfl))
    rfl rfl rfl (by rw [Try.params11]; intro t ht; simp only [List.mem_cons, List.not_mem_nil, or_false] at ht; rcases ht with rfl | rfl <;> exact ⟨by kernel_rfl, of_decide_eq_true (by kernel_rfl)⟩)
    (fun ds hl => by match ds, hl with | [d0, d1], _ => exact ⟨rfl, rfl, rfl⟩) ?_
  intro W base args ds p hval hA hlt hsz
  rw [Try.params11] at hA hval hsz
  obtain ⟨v0, vs0, d0, ds0, p0, q0, hargs, rfl, rfl, h0, r0⟩ := trodAll_cons hA
  obtain ⟨v1, vs1, d1, ds1, p1, q1, rfl, rfl, rfl, h1, r1⟩ := trodAll_cons r0
  obtain ⟨rfl, rfl, rfl⟩ := trodAll_nil r1
  obtain rfl : args = #[v0, v1] := by cases args; simp_all
  obtain ⟨x0, hx0⟩ := argII Try.underlying22 Try.underlying49 Try.underlying2 (by kernel_rfl) (by kernel_rfl) (by kernel_rfl) (by kernel_rfl) (hval 0 _ _ rfl rfl) h0 (weight_arg hsz (j := 0) rfl rfl)
  obtain ⟨x1, hx1⟩ := argReading Try.underlying43 Try.underlying39 Try.underlying2 rfl (by kernel_rfl) (by kernel_rfl) (by kernel_rfl) (hval 1 _ _ rfl rfl) h1 (weight_arg hsz (j := 1) rfl rfl)
  exact lawFewestCarriers_any _ x0 _ x1 W hx0 hx1 

theorem fewestCarriers_holds : Rows.FnExactFewestCarriersSaid :=
  OpenClaim.holds_of_wide 11 Try.f11 rfl rfl rfl rfl rfl rfl rfl ⟨rfl, rfl, rfl, rfl, rfl⟩ rfl rfl rfl rfl rfl (by kernel_rfl) Try.func11 (by kernel_rfl)
    (of_decide_eq_true (by kernel_rfl)) (by unfold Func.isWrapper; first | (rw [if_pos (by decide +kernel)]; kernel_rfl) | (rw [if_neg (by decide +kernel)]; exact ⟨rfl, rfl⟩))
    (fun os started H enc _ => fewestCarriers_lifted os started H enc)
#print axioms fewestCarriers_holds
end Go.Proofs.Ytlgeddbgbcineaa
