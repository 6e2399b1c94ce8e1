/-
FnExactAreTracks returns true for all arguments: the program's AreTracks and the reference's return the same, and the arguments stay as they were. No condition beyond the form's own reach.
-/
import Derived.Test.YtlgeddbgbcineaaRows
import Derived.Test.YtlgeddbgbcineaaLaw
import Derived.Test.YtlgeddbgbcineaaSensG
import Derived.Test.YtlgeddbgbcineaaIntss
import Derived.Test.YtlgeddbgbcineaaArgReading
namespace Go.Proofs.Ytlgeddbgbcineaa
open Go.ChangeShapes Go.WideShapes Go.ChangeAt Go.RowKit Go.Deep Go.Joins
set_option linter.unusedVariables false

set_option maxHeartbeats 2000000 in
theorem lawAreTracks_any (v0 : Value) (x0 : List (List Int)) (v1 : Value) (x1 : List Reading) (v2 : Value) (x2 : List (List Int)) (w : World) (h0 : SlII w v0 x0) (h1 : SlReading w v1 x1) (h2 : SlII w v2 x2)  : Calls Try.prog 9 #[v0, v1, v2] w fun e w' => e = .returned (.bool true) ∧ Below w.heap.size w w' := by
  have hs := fun (u0 : Value) (u1 : Value) (u2 : Value) (W : World) (k0 : SlII W u0 x0) (k1 : SlReading W u1 x1) (k2 : SlII W u2 x2) => specAre_any u0 u1 u2 x0 x1 x2 W k0 k1 k2 
  have hi := fun (u0 : Value) (u1 : Value) (u2 : Value) (W : World) (k0 : SlII W u0 x0) (k1 : SlReading W u1 x1) (k2 : SlII W u2 x2) => implAre_any u0 u1 u2 x0 x1 x2 W k0 k1 k2 
  generalize (arR x0 x1 x2).1 = r0 at hs hi
  generalize (arR x0 x1 x2).2 = r1 at hs hi
  have HS := Lib.hid hs; have HI := Lib.hid hi
  clear hs hi
  have HV0 := Lib.hid h0
  have HV1 := Lib.hid h1
  have HV2 := Lib.hid h2
  obtain ⟨A1, c1, rfl, hl1, _⟩ := h1.op
  clear h0
  clear h2
  clear h1
  go_enter Try.func9, Try.ntmps9
  go_wp2_with fail
  refine (szInt64SS_any _ x0 _ _ HV0.out (by omega) (by omega)).mono ?_
  rintro e w1 ⟨⟨s0, rfl, hs0⟩, rfl⟩
  by_cases g0 : s0 < 0
  · clear hs0
    go_wp2
    go_ret
    exact ⟨rfl, Below.refl _ _⟩
  have z0 : x0.length ≤ 1048576 := by unfold total at hs0; omega
  have q0 : 0 ≤ s0 ∧ s0 ≤ 1048576 := by unfold total at hs0; omega
  obtain ⟨qa0, qb0⟩ := q0
  clear hs0
  go_wp2_with fail
  refine (szReadingS_any _ _ _ _ _ hl1 (by omega) (by omega)).mono ?_
  rintro e w1 ⟨rfl, rfl⟩
  generalize hse1 : szOf s0 x1.length = s1
  have hs1 := szOf_or hse1.symm
  clear hse1
  by_cases g1 : s1 < 0
  · clear hs1
    go_wp2
    go_ret
    exact ⟨rfl, Below.refl _ _⟩
  have z1 : x1.length ≤ 1048576 := by omega
  have q1 : 0 ≤ s1 ∧ s1 ≤ 1048576 := by omega
  obtain ⟨qa1, qb1⟩ := q1
  clear hs1
  go_wp2_with fail
  refine (szInt64SS_any _ x2 _ _ HV2.out (by omega) (by omega)).mono ?_
  rintro e w1 ⟨⟨s2, rfl, hs2⟩, rfl⟩
  by_cases g2 : s2 < 0
  · clear hs2
    go_wp2
    go_ret
    exact ⟨rfl, Below.refl _ _⟩
  have z2 : x2.length ≤ 1048576 := by unfold total at hs2; omega
  have q2 : 0 ≤ s2 ∧ s2 ≤ 1048576 := by unfold total at hs2; omega
  obtain ⟨qa2, qb2⟩ := q2
  clear hs2
  have hb := Below.refl w.heap.size w
  go_wp2_with fail
  refine (toInt64SS_any _ x0 _ (HV0.out.ex hb) z0).mono ?_
  rintro e w2 ⟨As0, cs0, uss0, rfl, os0, hn⟩
  replace hb := below_next0 hb hn
  clear hn
  go_wp2_with fail
  refine (toReadingS_any _ x1 _ (HV1.out.ex hb) z1).mono ?_
  rintro e w3 ⟨As1, cs1, rfl, os1, hn⟩
  replace os0 := os0.ex hn
  replace hb := below_next0 hb hn
  clear hn
  go_wp2_with fail
  refine (toInt64SS_any _ x2 _ (HV2.out.ex hb) z2).mono ?_
  rintro e w4 ⟨As2, cs2, uss2, rfl, os2, hn⟩
  replace os0 := os0.ex hn
  replace os1 := os1.ex hn
  replace hb := below_next0 hb hn
  clear hn
  go_wp2_with fail
  refine (HS.out _ _ _ _ os0.sl os1.sl os2.sl).mono ?_
  rintro e w5 ⟨rfl, hn⟩
  replace os0 := os0.ex hn
  replace os1 := os1.ex hn
  replace os2 := os2.ex hn
  replace hb := below_next0 hb hn
  clear hn
  clear os0
  clear os1
  clear os2
  go_wp2_with fail
  refine (toInt64SS_any _ x0 _ (HV0.out.ex hb) z0).mono ?_
  rintro e w6 ⟨Ax0, cx0, usx0, rfl, ox0, hn⟩
  replace hb := below_next0 hb hn
  clear hn
  go_wp2_with fail
  refine (toReadingS_any _ x1 _ (HV1.out.ex hb) z1).mono ?_
  rintro e w7 ⟨Ax1, cx1, rfl, ox1, hn⟩
  replace ox0 := ox0.ex hn
  replace hb := below_next0 hb hn
  clear hn
  go_wp2_with fail
  refine (toInt64SS_any _ x2 _ (HV2.out.ex hb) z2).mono ?_
  rintro e w8 ⟨Ax2, cx2, usx2, rfl, ox2, hn⟩
  replace ox0 := ox0.ex hn
  replace ox1 := ox1.ex hn
  replace hb := below_next0 hb hn
  clear hn
  go_wp2_with fail
  refine (HI.out _ _ _ _ ox0.sl ox1.sl ox2.sl).mono ?_
  rintro e w9 ⟨rfl, hn⟩
  replace ox0 := ox0.ex hn
  replace ox1 := ox1.ex hn
  replace ox2 := ox2.ex hn
  replace hb := below_next0 hb hn
  clear hn
  go_wp2_with fail
  refine (toInt64SS_any _ x0 _ (HV0.out.ex hb) z0).mono ?_
  rintro e w10 ⟨Ay0, cy0, usy0, rfl, oy0, hn⟩
  replace ox0 := ox0.ex hn
  replace ox1 := ox1.ex hn
  replace ox2 := ox2.ex hn
  replace hb := below_next0 hb hn
  clear hn
  go_wp2_with fail
  refine (eqInt64SS_any _ _ x0 x0 _ ox0.sl oy0.sl).mono ?_
  rintro e w11 ⟨rfl, hn⟩
  replace ox0 := ox0.ex hn
  replace ox1 := ox1.ex hn
  replace ox2 := ox2.ex hn
  replace oy0 := oy0.ex hn
  replace hb := below_next0 hb hn
  clear hn
  simp only [decide_true]
  clear oy0
  go_wp2_with fail
  refine (toReadingS_any _ x1 _ (HV1.out.ex hb) z1).mono ?_
  rintro e w12 ⟨Ay1, cy1, rfl, oy1, hn⟩
  replace ox0 := ox0.ex hn
  replace ox1 := ox1.ex hn
  replace ox2 := ox2.ex hn
  replace hb := below_next0 hb hn
  clear hn
  go_wp2_with fail
  refine (eqReadingS_any _ _ x1 x1 _ ox1.sl oy1.sl).mono ?_
  rintro e w13 ⟨rfl, hn⟩
  replace ox0 := ox0.ex hn
  replace ox1 := ox1.ex hn
  replace ox2 := ox2.ex hn
  replace oy1 := oy1.ex hn
  replace hb := below_next0 hb hn
  clear hn
  simp only [decide_true]
  clear oy1
  go_wp2_with fail
  refine (toInt64SS_any _ x2 _ (HV2.out.ex hb) z2).mono ?_
  rintro e w14 ⟨Ay2, cy2, usy2, rfl, oy2, hn⟩
  replace ox0 := ox0.ex hn
  replace ox1 := ox1.ex hn
  replace ox2 := ox2.ex hn
  replace hb := below_next0 hb hn
  clear hn
  go_wp2_with fail
  refine (eqInt64SS_any _ _ x2 x2 _ ox2.sl oy2.sl).mono ?_
  rintro e w15 ⟨rfl, hn⟩
  replace ox0 := ox0.ex hn
  replace ox1 := ox1.ex hn
  replace ox2 := ox2.ex hn
  replace oy2 := oy2.ex hn
  replace hb := below_next0 hb hn
  clear hn
  simp only [decide_true]
  clear oy2
  go_wp2
  go_ret
  exact ⟨rfl, hb⟩

set_option maxRecDepth 100000 in
theorem areTracks_lifted (os : Os) (started : os.Started) (H : Type) (enc : TypeId × Value → H) :
    ReturnsInHanded {} Try.checked os 9 .any (Rows.fnExactAreTracksSpec.pre6 enc Try.checked.prog Try.f9 Rows.fnExactAreTracksRow.domain false) (Rows.fnExactAreTracksSpec.post enc Try.checked.prog Try.f9 false true false false) := by
  refine law_lifted os started H enc (by kernel_rfl) Try.func9
    (ChangeSpec.witness6 (enc := enc) (C := Try.checked) false ⟨#[], #[.slice none 0 0, .slice none 0 0, .slice none 0 0], []⟩ 8 (by kernel_rfl) (by kernel_rfl) (by kernel_rfl) (by kernel_rfl))
    rfl rfl rfl (by rw [Try.params9]; intro t ht; simp only [List.mem_cons, List.not_mem_nil, or_false] at ht; rcases ht with rfl | rfl | rfl <;> exact ⟨by kernel_rfl, of_decide_eq_true (by kernel_rfl)⟩)
    (fun ds hl => by match ds, hl with | [d0, d1, d2], _ => exact ⟨rfl, rfl, rfl⟩) ?_
  intro W base args ds p hval hA hlt hsz
  rw [Try.params9] at hA hval hsz
  obtain ⟨v0, vs0, d0, ds0, p0, q0, hargs, rfl, rfl, h0, r0⟩ := trodAll_cons hA
  obtain ⟨v1, vs1, d1, ds1, p1, q1, rfl, rfl, rfl, h1, r1⟩ := trodAll_cons r0
  obtain ⟨v2, vs2, d2, ds2, p2, q2, rfl, rfl, rfl, h2, r2⟩ := trodAll_cons r1
  obtain ⟨rfl, rfl, rfl⟩ := trodAll_nil r2
  obtain rfl : args = #[v0, v1, v2] := by cases args; simp_all
  obtain ⟨x0, hx0⟩ := argII Try.underlying22 Try.underlying49 Try.underlying2 (by kernel_rfl) (by kernel_rfl) (by kernel_rfl) (by kernel_rfl) (hval 0 _ _ rfl rfl) h0 (weight_arg hsz (j := 0) rfl rfl)
  obtain ⟨x1, hx1⟩ := argReading Try.underlying43 Try.underlying39 Try.underlying2 rfl (by kernel_rfl) (by kernel_rfl) (by kernel_rfl) (hval 1 _ _ rfl rfl) h1 (weight_arg hsz (j := 1) rfl rfl)
  obtain ⟨x2, hx2⟩ := argII Try.underlying22 Try.underlying49 Try.underlying2 (by kernel_rfl) (by kernel_rfl) (by kernel_rfl) (by kernel_rfl) (hval 2 _ _ rfl rfl) h2 (weight_arg hsz (j := 2) rfl rfl)
  exact lawAreTracks_any _ x0 _ x1 _ x2 W hx0 hx1 hx2 

theorem areTracks_holds : Rows.FnExactAreTracksSaid :=
  OpenClaim.holds_of_wide 9 Try.f9 rfl rfl rfl rfl rfl rfl rfl ⟨rfl, rfl, rfl, rfl, rfl⟩ rfl rfl rfl rfl rfl (by kernel_rfl) Try.func9 (by kernel_rfl)
    (of_decide_eq_true (by kernel_rfl)) (by unfold Func.isWrapper; first | (rw [if_pos (by decide +kernel)]; kernel_rfl) | (rw [if_neg (by decide +kernel)]; exact ⟨rfl, rfl⟩))
    (fun os started H enc _ => areTracks_lifted os started H enc)
#print axioms areTracks_holds
end Go.Proofs.Ytlgeddbgbcineaa
