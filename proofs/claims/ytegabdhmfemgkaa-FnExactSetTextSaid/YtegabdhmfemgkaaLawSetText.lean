/-
FnExactSetText returns true for all arguments: the program's SetText and the reference's return the same, and the arguments stay as they were. No condition beyond the form's own reach.
-/
import Derived.Test.YtegabdhmfemgkaaRows
import Derived.Test.YtegabdhmfemgkaaLaw
import Derived.Test.YtegabdhmfemgkaaSetA
import Derived.Test.YtegabdhmfemgkaaArgBlower
namespace Go.Proofs.Ytegabdhmfemgkaa
open Go.ChangeShapes Go.WideShapes Go.ChangeAt Go.RowKit Go.Deep Go.Joins
set_option linter.unusedVariables false

set_option maxHeartbeats 2000000 in
theorem lawSetText_any (v0 : Value) (x0 : List Blower) (x1 : Int) (w : World) (h0 : SlBlower w v0 x0) (b1 : -9223372036854775808 ≤ x1 ∧ x1 ≤ 9223372036854775807) : Calls Try.prog 3 #[v0, .int .i64 x1] w fun e w' => e = .returned (.bool true) ∧ Below w.heap.size w w' := by
  have hs := fun (u0 : Value) (W : World) (k0 : SlBlower W u0 x0) => specSetText_any u0 x0 x1 W k0 b1
  have hi := fun (u0 : Value) (W : World) (k0 : SlBlower W u0 x0) => implSetText_any u0 x0 x1 W k0 b1
  generalize textR x0 x1 = r0 at hs hi
  have HS := Lib.hid hs; have HI := Lib.hid hi
  clear hs hi
  have HV0 := Lib.hid h0
  obtain ⟨A0, c0, rfl, hl0, _⟩ := h0.op
  clear h0
  go_enter Try.func3, Try.ntmps3
  go_wp2_with fail
  refine (szBlowerS_any _ _ _ _ _ hl0 (by omega) (by omega)).mono ?_
  rintro e w1 ⟨rfl, rfl⟩
  generalize hse0 : szOf 1048576 x0.length = s0
  have hs0 := szOf_or hse0.symm
  clear hse0
  by_cases g0 : s0 < 0
  · clear hs0
    go_wp2
    go_ret
    exact ⟨rfl, Below.refl _ _⟩
  have z0 : x0.length ≤ 1048576 := by omega
  have q0 : 0 ≤ s0 ∧ s0 ≤ 1048576 := by omega
  obtain ⟨qa0, qb0⟩ := q0
  clear hs0
  have hb := Below.refl w.heap.size w
  go_wp2_with fail
  refine (toBlowerS_any _ x0 _ (HV0.out.ex hb) z0).mono ?_
  rintro e w2 ⟨As0, cs0, rfl, os0, hn⟩
  replace hb := below_next0 hb hn
  clear hn
  go_wp2_with fail
  refine (HS.out _ _ os0.sl).mono ?_
  rintro e w3 ⟨rfl, hn⟩
  replace os0 := os0.ex hn
  replace hb := below_next0 hb hn
  clear hn
  clear os0
  go_wp2_with fail
  refine (toBlowerS_any _ x0 _ (HV0.out.ex hb) z0).mono ?_
  rintro e w4 ⟨Ax0, cx0, rfl, ox0, hn⟩
  replace hb := below_next0 hb hn
  clear hn
  go_wp2_with fail
  refine (HI.out _ _ ox0.sl).mono ?_
  rintro e w5 ⟨rfl, hn⟩
  replace ox0 := ox0.ex hn
  replace hb := below_next0 hb hn
  clear hn
  go_wp2_with fail
  refine (toBlowerS_any _ x0 _ (HV0.out.ex hb) z0).mono ?_
  rintro e w6 ⟨Ay0, cy0, rfl, oy0, hn⟩
  replace ox0 := ox0.ex hn
  replace hb := below_next0 hb hn
  clear hn
  go_wp2_with fail
  refine (eqBlowerS_any _ _ x0 x0 _ ox0.sl oy0.sl).mono ?_
  rintro e w7 ⟨rfl, hn⟩
  replace ox0 := ox0.ex hn
  replace oy0 := oy0.ex hn
  replace hb := below_next0 hb hn
  clear hn
  simp only [decide_true]
  clear oy0
  go_wp2
  go_ret
  exact ⟨rfl, hb⟩

set_option maxRecDepth 100000 in
theorem setText_lifted (os : Os) (started : os.Started) (H : Type) (enc : TypeId × Value → H) :
    ReturnsInHanded {} Try.checked os 3 .any (Rows.fnExactSetTextSpec.pre6 enc Try.checked.prog Try.f3 Rows.fnExactSetTextRow.domain false) (Rows.fnExactSetTextSpec.post enc Try.checked.prog Try.f3 false true false false) := by
  refine law_lifted os started H enc (by kernel_rfl) Try.func3
    (ChangeSpec.witness6 (enc := enc) (C := Try.checked) false ⟨#[], #[.slice none 0 0, .int .i64 0], []⟩ 8 (by kernel_rfl) (by kernel_rfl) (by kernel_rfl) (by kernel_rfl))
    rfl rfl rfl (by rw [Try.params3]; intro t ht; simp only [List.mem_cons, List.not_mem_nil, or_false] at ht; rcases ht with rfl | rfl <;> exact ⟨by kernel_rfl, of_decide_eq_true (by kernel_rfl)⟩)
    (fun ds hl => by match ds, hl with | [d0, d1], _ => exact ⟨rfl, rfl, rfl⟩) ?_
  intro W base args ds p hval hA hlt hsz
  rw [Try.params3] at hA hval hsz
  obtain ⟨v0, vs0, d0, ds0, p0, q0, hargs, rfl, rfl, h0, r0⟩ := trodAll_cons hA
  obtain ⟨v1, vs1, d1, ds1, p1, q1, rfl, rfl, rfl, h1, r1⟩ := trodAll_cons r0
  obtain ⟨rfl, rfl, rfl⟩ := trodAll_nil r1
  obtain rfl : args = #[v0, v1] := by cases args; simp_all
  obtain ⟨x0, hx0⟩ := argBlower Try.underlying22 Try.underlying60 Try.underlying2 rfl (by kernel_rfl) (by kernel_rfl) (by kernel_rfl) (hval 0 _ _ rfl rfl) h0 (weight_arg hsz (j := 0) rfl rfl)
  obtain ⟨x1, rfl, rfl, rfl, wx1⟩ := open_int Try.underlying2 (hval 1 _ _ rfl rfl) h1
  exact lawSetText_any _ x0 x1 W hx0 (wf_bd wx1)

theorem setText_holds : Rows.FnExactSetTextSaid :=
  OpenClaim.holds_of_wide 3 Try.f3 rfl rfl rfl rfl rfl rfl rfl ⟨rfl, rfl, rfl, rfl, rfl⟩ rfl rfl rfl rfl rfl (by kernel_rfl) Try.func3 (by kernel_rfl)
    (of_decide_eq_true (by kernel_rfl)) (by unfold Func.isWrapper; first | (rw [if_pos (by decide +kernel)]; kernel_rfl) | (rw [if_neg (by decide +kernel)]; exact ⟨rfl, rfl⟩))
    (fun os started H enc _ => setText_lifted os started H enc)
#print axioms setText_holds
end Go.Proofs.Ytegabdhmfemgkaa
