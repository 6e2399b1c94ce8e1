/-
FnExactMovingDelays returns true for all arguments: the program's MovingDelays and the reference's return the same, and the arguments stay as they were. No condition beyond the form's own reach.
-/
import Derived.Test.YthpijecjifmnbaaRows
import Derived.Test.YthpijecjifmnbaaLaw
import Derived.Test.YthpijecjifmnbaaDelF
import Derived.Test.YthpijecjifmnbaaArgTrip
namespace Go.Proofs.Ythpijecjifmnbaa
open Go.ChangeShapes Go.WideShapes Go.ChangeAt Go.RowKit Go.Deep Go.Joins
set_option linter.unusedVariables false

theorem markTrip_lawMovingDelays (v : Value) (ts : List Trip) (k0 : Int) (w : World) (lo : Nat) (hv : OwTrip w lo v ts) (h0 : 0 ≤ k0) (h1 : k0 ≤ 1152921504606846976) :
    Calls Try.prog 29 #[v, .int .i64 k0] w fun e w' => e = .returned (.int .i64 (k0 + ts.length * 3)) ∧ Ow w' lo 26 3 v ts.length ((marks k0 (ts.length * 3)).map (Value.int .i64)) ∧ w.grownBy w' v.ownBlock := by
  have hl : (ts.flatMap fun t => [t.to, t.due, t.came]).length = ts.length * 3 := flat_len (fun t : Trip => [t.to, t.due, t.came]) 3 (fun _ => rfl) ts
  have h := markTripS_any v ts.length (ts.flatMap fun t => [t.to, t.due, t.came]) k0 w lo (by rw [List.map_flatMap]; exact hv) h0 h1
  rw [hl] at h
  refine h.mono ?_
  rintro e w' ⟨rfl, h2, h3⟩
  exact ⟨by simp, h2, h3⟩

set_option maxHeartbeats 2000000 in
theorem lawMovingDelays_any (v0 : Value) (x0 : List Trip) (x1 : Int) (w : World) (h0 : SlTrip w v0 x0) (b1 : -9223372036854775808 ≤ x1 ∧ x1 ≤ 9223372036854775807) : Calls Try.prog 8 #[v0, .int .i64 x1] w fun e w' => e = .returned (.bool true) ∧ Below w.heap.size w w' := by
  have hs := fun (u0 : Value) (W : World) (k0 : SlTrip W u0 x0 ∧ capOk u0) => specMoving_any u0 x0 x1 W k0 b1
  have hi := fun (u0 : Value) (W : World) (k0 : SlTrip W u0 x0 ∧ capOk u0) => implMoving_any u0 x0 x1 W k0 b1
  generalize (movingR x0 x1).1 = r0 at hs hi
  generalize (movingR x0 x1).2 = r1 at hs hi
  have HS := Lib.hid hs; have HI := Lib.hid hi
  clear hs hi
  have HV0 := Lib.hid h0
  obtain ⟨A0, c0, rfl, hl0, _⟩ := h0.op
  clear h0
  go_enter Try.func8, Try.ntmps8
  go_wp2_with fail
  refine (szTripS_any _ _ _ _ _ hl0 (by omega) (by omega)).mono ?_
  rintro e w1 ⟨rfl, rfl⟩
  generalize hse0 : szOf 1048576 x0.length = s0
  have hs0 := szOf_or hse0.symm
  clear hse0
  by_cases g0 : s0 < 0
  · clear hs0
    go_wp2
    go_ret
    exact ⟨rfl, Below.refl _ _⟩
  have z0 : x0.length ≤ 1048576 := by omega
  have q0 : 0 ≤ s0 ∧ s0 ≤ 1048576 := by omega
  obtain ⟨qa0, qb0⟩ := q0
  clear hs0
  have hb := Below.refl w.heap.size w
  go_wp2_with fail
  refine (toTripS_any _ x0 _ (HV0.out.ex hb) z0).mono ?_
  rintro e w2 ⟨As0, cs0, rfl, os0, hn⟩
  replace hb := below_next0 hb hn
  clear hn
  go_wp2_with fail
  refine (HS.out _ _ ⟨os0.sl, Ow.cap os0⟩).mono ?_
  rintro e w3 ⟨Aow, cow, rfl, ow, hn⟩
  replace os0 := os0.ex hn
  replace hb := below_next0 hb hn
  clear hn
  clear os0
  go_wp2_with fail
  refine (toTripS_any _ x0 _ (HV0.out.ex hb) z0).mono ?_
  rintro e w4 ⟨Ax0, cx0, rfl, ox0, hn⟩
  have sp_ow_ox0 := Ow.sep_new ow ox0 (Nat.le_refl _)
  have sp_ox0_ow := Ow.sep_new' ow ox0 (Nat.le_refl _)
  replace ow := ow.ex hn
  have hbs := hb.size
  replace hb := below_next0 hb hn
  clear hn
  have hlo_ox0 := hbs
  clear hbs
  go_wp2_with fail
  refine (HI.out _ _ ⟨ox0.sl, Ow.cap ox0⟩).mono ?_
  rintro e w5 ⟨Aog, cog, rfl, og, hn⟩
  have sp_ow_og := Ow.sep_new ow og (Nat.le_refl _)
  have sp_og_ow := Ow.sep_new' ow og (Nat.le_refl _)
  have sp_ox0_og := Ow.sep_new ox0 og (Nat.le_refl _)
  have sp_og_ox0 := Ow.sep_new' ox0 og (Nat.le_refl _)
  replace ow := ow.ex hn
  replace ox0 := ox0.ex hn
  have hbs := hb.size
  replace hb := below_next0 hb hn
  clear hn
  have hlo_og := hbs
  clear hbs
  go_wp2_with fail
  refine (calls_drew_below (eqInt64S_any _ _ r0 r0 _ og.sl ow.sl)).mono ?_
  rintro e w6 ⟨rfl, hn⟩
  replace ow := ow.ex hn
  replace ox0 := ox0.ex hn
  replace og := og.ex hn
  replace hb := below_next0 hb hn
  clear hn
  simp only [decide_true]
  go_wp2_with fail
  refine (toTripS_any _ x0 _ (HV0.out.ex hb) z0).mono ?_
  rintro e w7 ⟨Ay0, cy0, rfl, oy0, hn⟩
  replace ow := ow.ex hn
  replace ox0 := ox0.ex hn
  replace og := og.ex hn
  replace hb := below_next0 hb hn
  clear hn
  go_wp2_with fail
  refine (eqTripS_any _ _ x0 x0 _ ox0.sl oy0.sl).mono ?_
  rintro e w8 ⟨rfl, hn⟩
  replace ow := ow.ex hn
  replace ox0 := ox0.ex hn
  replace og := og.ex hn
  replace oy0 := oy0.ex hn
  replace hb := below_next0 hb hn
  clear hn
  simp only [decide_true]
  clear oy0
  go_wp2_with fail
  refine (markTrip_lawMovingDelays _ x0 _ _ _ ox0 (by omega) (by omega)).mono ?_
  rintro e w9 ⟨rfl, mo, hg⟩
  have hbm := below_own hb ox0 hg hb.size hlo_ox0
  replace ow := ow.keptS hg sp_ow_ox0
  replace og := og.keptS hg sp_og_ox0
  replace hb := hbm
  clear hbm hg
  clear ox0 mo
  go_wp2_with fail
  refine (calls_drew_below (eqInt64S_any _ _ r0 r0 _ og.sl ow.sl)).mono ?_
  rintro e w10 ⟨rfl, hn⟩
  replace ow := ow.ex hn
  replace og := og.ex hn
  replace hb := below_next0 hb hn
  clear hn
  simp only [decide_true]
  go_wp2_with fail
  refine (markInt64S_any _ r0 _ _ _ og (by omega) (by omega)).mono ?_
  rintro e w11 ⟨rfl, mo, hg⟩
  have hbm := below_own hb og hg hb.size hlo_og
  replace ow := ow.keptS hg sp_ow_og
  replace hb := hbm
  clear hbm hg
  replace og := mo
  clear mo
  go_wp2_with fail
  refine (heldInt64S_any _ r0.length 1 _ og.sl (by omega) (by omega)).mono ?_
  rintro e w12 ⟨rfl, rfl⟩
  go_wp2_with fail
  refine (toTripS_any _ x0 _ (HV0.out.ex hb) z0).mono ?_
  rintro e w13 ⟨Az0, cz0, rfl, oz0, hn⟩
  replace ow := ow.ex hn
  replace og := og.ex hn
  replace hb := below_next0 hb hn
  clear hn
  go_wp2_with fail
  refine (HI.out _ _ ⟨oz0.sl, Ow.cap oz0⟩).mono ?_
  rintro e w14 ⟨Aoh, coh, rfl, oh, hn⟩
  replace ow := ow.ex hn
  replace og := og.ex hn
  replace oz0 := oz0.ex hn
  replace hb := below_next0 hb hn
  clear hn
  clear oz0
  go_wp2_with fail
  refine (calls_drew_below (eqInt64S_any _ _ r0 r0 _ oh.sl ow.sl)).mono ?_
  rintro e w15 ⟨rfl, hn⟩
  replace ow := ow.ex hn
  replace og := og.ex hn
  replace oh := oh.ex hn
  replace hb := below_next0 hb hn
  clear hn
  simp only [decide_true]
  go_wp2_with fail
  refine (heldInt64S_any _ r0.length 1 _ og.sl (by omega) (by omega)).mono ?_
  rintro e w16 ⟨rfl, rfl⟩
  go_wp2
  go_ret
  exact ⟨rfl, hb⟩

set_option maxRecDepth 100000 in
theorem movingDelays_lifted (os : Os) (started : os.Started) (H : Type) (enc : TypeId × Value → H) :
    ReturnsInHanded {} Try.checked os 8 .any (Rows.fnExactMovingDelaysSpec.pre6 enc Try.checked.prog Try.f8 Rows.fnExactMovingDelaysRow.domain false) (Rows.fnExactMovingDelaysSpec.post enc Try.checked.prog Try.f8 false true false false) := by
  refine law_lifted os started H enc (by kernel_rfl) Try.func8
    (ChangeSpec.witness6 (enc := enc) (C := Try.checked) false ⟨#[], #[.slice none 0 0, .int .i64 0], []⟩ 8 (by kernel_rfl) (by kernel_rfl) (by kernel_rfl) (by kernel_rfl))
    rfl rfl rfl (by rw [Try.params8]; intro t ht; simp only [List.mem_cons, List.not_mem_nil, or_false] at ht; rcases ht with rfl | rfl <;> exact ⟨by kernel_rfl, of_decide_eq_true (by kernel_rfl)⟩)
    (fun ds hl => by match ds, hl with | [d0, d1], _ => exact ⟨rfl, rfl, rfl⟩) ?_
  intro W base args ds p hval hA hlt hsz
  rw [Try.params8] at hA hval hsz
  obtain ⟨v0, vs0, d0, ds0, p0, q0, hargs, rfl, rfl, h0, r0⟩ := trodAll_cons hA
  obtain ⟨v1, vs1, d1, ds1, p1, q1, rfl, rfl, rfl, h1, r1⟩ := trodAll_cons r0
  obtain ⟨rfl, rfl, rfl⟩ := trodAll_nil r1
  obtain rfl : args = #[v0, v1] := by cases args; simp_all
  obtain ⟨x0, hx0⟩ := argTrip Try.underlying29 Try.underlying23 Try.underlying2 rfl (by kernel_rfl) (by kernel_rfl) (by kernel_rfl) (hval 0 _ _ rfl rfl) h0 (weight_arg hsz (j := 0) rfl rfl)
  obtain ⟨x1, rfl, rfl, rfl, wx1⟩ := open_int Try.underlying2 (hval 1 _ _ rfl rfl) h1
  exact lawMovingDelays_any _ x0 x1 W hx0 (wf_bd wx1)

theorem movingDelays_holds : Rows.FnExactMovingDelaysSaid :=
  OpenClaim.holds_of_wide 8 Try.f8 rfl rfl rfl rfl rfl rfl rfl ⟨rfl, rfl, rfl, rfl, rfl⟩ rfl rfl rfl rfl rfl (by kernel_rfl) Try.func8 (by kernel_rfl)
    (of_decide_eq_true (by kernel_rfl)) (by unfold Func.isWrapper; first | (rw [if_pos (by decide +kernel)]; kernel_rfl) | (rw [if_neg (by decide +kernel)]; exact ⟨rfl, rfl⟩))
    (fun os started H enc _ => movingDelays_lifted os started H enc)
#print axioms movingDelays_holds
end Go.Proofs.Ythpijecjifmnbaa
