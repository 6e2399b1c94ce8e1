/-
FnExactBestDay returns true for all arguments: the program's BestDay and the reference's return the same, and the arguments stay as they were. No condition beyond the form's own reach.
-/
import Derived.Test.YtjleabgoajoegaaRows
import Derived.Test.YtjleabgoajoegaaLaw
import Derived.Test.YtjleabgoajoegaaBestD
import Derived.Test.YtjleabgoajoegaaArgBlower
namespace Go.Proofs.Ytjleabgoajoegaa
open Go.ChangeShapes Go.WideShapes Go.ChangeAt Go.RowKit Go.Deep Go.Joins
set_option linter.unusedVariables false

theorem markBlower_lawBestDay (v : Value) (ts : List Blower) (k0 : Int) (w : World) (lo : Nat) (hv : OwBlower w lo v ts) (h0 : 0 ≤ k0) (h1 : k0 ≤ 1152921504606846976) :
    Calls Try.prog 40 #[v, .int .i64 k0] w fun e w' => e = .returned (.int .i64 (k0 + ts.length * 3)) ∧ Ow w' lo 62 3 v ts.length ((marks k0 (ts.length * 3)).map (Value.int .i64)) ∧ w.grownBy w' v.ownBlock := by
  have hl : (ts.flatMap fun t => [t.power, t.hour, t.start]).length = ts.length * 3 := flat_len (fun t : Blower => [t.power, t.hour, t.start]) 3 (fun _ => rfl) ts
  have h := markBlowerS_any v ts.length (ts.flatMap fun t => [t.power, t.hour, t.start]) k0 w lo (by rw [List.map_flatMap]; exact hv) h0 h1
  rw [hl] at h
  refine h.mono ?_
  rintro e w' ⟨rfl, h2, h3⟩
  exact ⟨by simp, h2, h3⟩

set_option maxHeartbeats 2000000 in
theorem lawBestDay_any (v0 : Value) (x0 : List Blower) (v1 : Value) (x1 : List Int) (w : World) (h0 : SlBlower w v0 x0) (h1 : SlI w v1 x1)  : Calls Try.prog 12 #[v0, v1] w fun e w' => e = .returned (.bool true) ∧ Below w.heap.size w w' := by
  have hs := fun (u0 : Value) (u1 : Value) (W : World) (k0 : SlBlower W u0 x0) (k1 : SlI W u1 x1) => specBest_any u0 u1 x0 x1 W k0 k1 
  have hi := fun (u0 : Value) (u1 : Value) (W : World) (k0 : SlBlower W u0 x0) (k1 : SlI W u1 x1) => implBest_any u0 u1 x0 x1 W k0 k1 
  generalize (bdR x0 x1).1 = r0 at hs hi
  generalize (bdR x0 x1).2.1 = r1 at hs hi
  generalize (bdR x0 x1).2.2 = r2 at hs hi
  have HS := Lib.hid hs; have HI := Lib.hid hi
  clear hs hi
  have HV0 := Lib.hid h0
  have HV1 := Lib.hid h1
  obtain ⟨A0, c0, rfl, hl0, _⟩ := h0.op
  obtain ⟨A1, c1, rfl, hl1, _⟩ := h1.op
  clear h0
  clear h1
  by_cases y1 : 1048576 < x1.length
  · go_enter Try.func12, Try.ntmps12
    go_wp2
    go_ret
    exact ⟨rfl, Below.refl _ _⟩
  have z1 : x1.length ≤ 1048576 := by omega
  clear y1
  go_enter Try.func12, Try.ntmps12
  go_wp2_with fail
  refine (szBlowerS_any _ _ _ _ _ hl0 (by omega) (by omega)).mono ?_
  rintro e w1 ⟨rfl, rfl⟩
  generalize hse0 : szOf 1048576 x0.length = s0
  have hs0 := szOf_or hse0.symm
  clear hse0
  by_cases g0 : s0 < 0
  · clear hs0
    go_wp2
    go_ret
    exact ⟨rfl, Below.refl _ _⟩
  have z0 : x0.length ≤ 1048576 := by omega
  have q0 : 0 ≤ s0 ∧ s0 ≤ 1048576 := by omega
  obtain ⟨qa0, qb0⟩ := q0
  clear hs0
  have hb := Below.refl w.heap.size w
  go_wp2_with fail
  refine (toBlowerS_any _ x0 _ (HV0.out.ex hb) z0).mono ?_
  rintro e w2 ⟨As0, cs0, rfl, os0, hn⟩
  replace hb := below_next0 hb hn
  clear hn
  go_wp2_with fail
  refine (toInt64S_any _ x1 _ (HV1.out.ex hb)).mono ?_
  rintro e w3 ⟨As1, cs1, rfl, os1, hn⟩
  replace os0 := os0.ex hn
  replace hb := below_next0 hb hn
  clear hn
  go_wp2_with fail
  refine (HS.out _ _ _ os0.sl os1.sl).mono ?_
  rintro e w4 ⟨Aow, cow, rfl, ow, hn⟩
  replace os0 := os0.ex hn
  replace os1 := os1.ex hn
  replace hb := below_next0 hb hn
  clear hn
  clear os0
  clear os1
  go_wp2_with fail
  refine (toBlowerS_any _ x0 _ (HV0.out.ex hb) z0).mono ?_
  rintro e w5 ⟨Ax0, cx0, rfl, ox0, hn⟩
  have sp_ow_ox0 := Ow.sep_new ow ox0 (Nat.le_refl _)
  have sp_ox0_ow := Ow.sep_new' ow ox0 (Nat.le_refl _)
  replace ow := ow.ex hn
  have hbs := hb.size
  replace hb := below_next0 hb hn
  clear hn
  have hlo_ox0 := hbs
  clear hbs
  go_wp2_with fail
  refine (toInt64S_any _ x1 _ (HV1.out.ex hb)).mono ?_
  rintro e w6 ⟨Ax1, cx1, rfl, ox1, hn⟩
  have sp_ow_ox1 := Ow.sep_new ow ox1 (Nat.le_refl _)
  have sp_ox1_ow := Ow.sep_new' ow ox1 (Nat.le_refl _)
  have sp_ox0_ox1 := Ow.sep_new ox0 ox1 (Nat.le_refl _)
  have sp_ox1_ox0 := Ow.sep_new' ox0 ox1 (Nat.le_refl _)
  replace ow := ow.ex hn
  replace ox0 := ox0.ex hn
  have hbs := hb.size
  replace hb := below_next0 hb hn
  clear hn
  have hlo_ox1 := hbs
  clear hbs
  go_wp2_with fail
  refine (HI.out _ _ _ ox0.sl ox1.sl).mono ?_
  rintro e w7 ⟨Aog, cog, rfl, og, hn⟩
  have sp_ow_og := Ow.sep_new ow og (Nat.le_refl _)
  have sp_og_ow := Ow.sep_new' ow og (Nat.le_refl _)
  have sp_ox0_og := Ow.sep_new ox0 og (Nat.le_refl _)
  have sp_og_ox0 := Ow.sep_new' ox0 og (Nat.le_refl _)
  have sp_ox1_og := Ow.sep_new ox1 og (Nat.le_refl _)
  have sp_og_ox1 := Ow.sep_new' ox1 og (Nat.le_refl _)
  replace ow := ow.ex hn
  replace ox0 := ox0.ex hn
  replace ox1 := ox1.ex hn
  have hbs := hb.size
  replace hb := below_next0 hb hn
  clear hn
  have hlo_og := hbs
  clear hbs
  go_wp2_with fail
  refine (calls_drew_below (eqInt64S_any _ _ r0 r0 _ og.sl ow.sl)).mono ?_
  rintro e w8 ⟨rfl, hn⟩
  replace ow := ow.ex hn
  replace ox0 := ox0.ex hn
  replace ox1 := ox1.ex hn
  replace og := og.ex hn
  replace hb := below_next0 hb hn
  clear hn
  simp only [decide_true]
  go_wp2_with fail
  refine (toBlowerS_any _ x0 _ (HV0.out.ex hb) z0).mono ?_
  rintro e w9 ⟨Ay0, cy0, rfl, oy0, hn⟩
  replace ow := ow.ex hn
  replace ox0 := ox0.ex hn
  replace ox1 := ox1.ex hn
  replace og := og.ex hn
  replace hb := below_next0 hb hn
  clear hn
  go_wp2_with fail
  refine (eqBlowerS_any _ _ x0 x0 _ ox0.sl oy0.sl).mono ?_
  rintro e w10 ⟨rfl, hn⟩
  replace ow := ow.ex hn
  replace ox0 := ox0.ex hn
  replace ox1 := ox1.ex hn
  replace og := og.ex hn
  replace oy0 := oy0.ex hn
  replace hb := below_next0 hb hn
  clear hn
  simp only [decide_true]
  clear oy0
  go_wp2_with fail
  refine (toInt64S_any _ x1 _ (HV1.out.ex hb)).mono ?_
  rintro e w11 ⟨Ay1, cy1, rfl, oy1, hn⟩
  replace ow := ow.ex hn
  replace ox0 := ox0.ex hn
  replace ox1 := ox1.ex hn
  replace og := og.ex hn
  replace hb := below_next0 hb hn
  clear hn
  go_wp2_with fail
  refine (calls_drew_below (eqInt64S_any _ _ x1 x1 _ ox1.sl oy1.sl)).mono ?_
  rintro e w12 ⟨rfl, hn⟩
  replace ow := ow.ex hn
  replace ox0 := ox0.ex hn
  replace ox1 := ox1.ex hn
  replace og := og.ex hn
  replace oy1 := oy1.ex hn
  replace hb := below_next0 hb hn
  clear hn
  simp only [decide_true]
  clear oy1
  go_wp2_with fail
  refine (markBlower_lawBestDay _ x0 _ _ _ ox0 (by omega) (by omega)).mono ?_
  rintro e w13 ⟨rfl, mo, hg⟩
  have hbm := below_own hb ox0 hg hb.size hlo_ox0
  replace ow := ow.keptS hg sp_ow_ox0
  replace ox1 := ox1.keptS hg sp_ox1_ox0
  replace og := og.keptS hg sp_og_ox0
  replace hb := hbm
  clear hbm hg
  clear ox0 mo
  go_wp2_with fail
  refine (markInt64S_any _ x1 _ _ _ ox1 (by omega) (by omega)).mono ?_
  rintro e w14 ⟨rfl, mo, hg⟩
  have hbm := below_own hb ox1 hg hb.size hlo_ox1
  replace ow := ow.keptS hg sp_ow_ox1
  replace og := og.keptS hg sp_og_ox1
  replace hb := hbm
  clear hbm hg
  clear ox1 mo
  go_wp2_with fail
  refine (calls_drew_below (eqInt64S_any _ _ r0 r0 _ og.sl ow.sl)).mono ?_
  rintro e w15 ⟨rfl, hn⟩
  replace ow := ow.ex hn
  replace og := og.ex hn
  replace hb := below_next0 hb hn
  clear hn
  simp only [decide_true]
  go_wp2_with fail
  refine (markInt64S_any _ r0 _ _ _ og (by omega) (by omega)).mono ?_
  rintro e w16 ⟨rfl, mo, hg⟩
  have hbm := below_own hb og hg hb.size hlo_og
  replace ow := ow.keptS hg sp_ow_og
  replace hb := hbm
  clear hbm hg
  replace og := mo
  clear mo
  go_wp2_with fail
  refine (heldInt64S_any _ r0.length 1 _ og.sl (by omega) (by omega)).mono ?_
  rintro e w17 ⟨rfl, rfl⟩
  go_wp2_with fail
  refine (toBlowerS_any _ x0 _ (HV0.out.ex hb) z0).mono ?_
  rintro e w18 ⟨Az0, cz0, rfl, oz0, hn⟩
  replace ow := ow.ex hn
  replace og := og.ex hn
  replace hb := below_next0 hb hn
  clear hn
  go_wp2_with fail
  refine (toInt64S_any _ x1 _ (HV1.out.ex hb)).mono ?_
  rintro e w19 ⟨Az1, cz1, rfl, oz1, hn⟩
  replace ow := ow.ex hn
  replace og := og.ex hn
  replace oz0 := oz0.ex hn
  replace hb := below_next0 hb hn
  clear hn
  go_wp2_with fail
  refine (HI.out _ _ _ oz0.sl oz1.sl).mono ?_
  rintro e w20 ⟨Aoh, coh, rfl, oh, hn⟩
  replace ow := ow.ex hn
  replace og := og.ex hn
  replace oz0 := oz0.ex hn
  replace oz1 := oz1.ex hn
  replace hb := below_next0 hb hn
  clear hn
  clear oz0
  clear oz1
  go_wp2_with fail
  refine (calls_drew_below (eqInt64S_any _ _ r0 r0 _ oh.sl ow.sl)).mono ?_
  rintro e w21 ⟨rfl, hn⟩
  replace ow := ow.ex hn
  replace og := og.ex hn
  replace oh := oh.ex hn
  replace hb := below_next0 hb hn
  clear hn
  simp only [decide_true]
  go_wp2_with fail
  refine (heldInt64S_any _ r0.length 1 _ og.sl (by omega) (by omega)).mono ?_
  rintro e w22 ⟨rfl, rfl⟩
  go_wp2
  go_ret
  exact ⟨rfl, hb⟩

set_option maxRecDepth 100000 in
theorem bestDay_lifted (os : Os) (started : os.Started) (H : Type) (enc : TypeId × Value → H) :
    ReturnsInHanded {} Try.checked os 12 .any (Rows.fnExactBestDaySpec.pre6 enc Try.checked.prog Try.f12 Rows.fnExactBestDayRow.domain false) (Rows.fnExactBestDaySpec.post enc Try.checked.prog Try.f12 false true false false) := by
  refine law_lifted os started H enc (by kernel_rfl) Try.func12
    (ChangeSpec.witness6 (enc := enc) (C := Try.checked) false ⟨#[], #[.slice none 0 0, .slice none 0 0], []⟩ 8 (by kernel_rfl) (by kernel_rfl) (by kernel_rfl) (by kernel_rfl))
    rfl rfl rfl (by rw [Try.params12]; intro t ht; simp only [List.mem_cons, List.not_mem_nil, or_false] at ht; rcases ht with rfl | rfl <;> exact ⟨by kernel_rfl, of_decide_eq_true (by kernel_rfl)⟩)
    (fun ds hl => by match ds, hl with | [d0, d1], _ => exact ⟨rfl, rfl, rfl⟩) ?_
  intro W base args ds p hval hA hlt hsz
  rw [Try.params12] at hA hval hsz
  obtain ⟨v0, vs0, d0, ds0, p0, q0, hargs, rfl, rfl, h0, r0⟩ := trodAll_cons hA
  obtain ⟨v1, vs1, d1, ds1, p1, q1, rfl, rfl, rfl, h1, r1⟩ := trodAll_cons r0
  obtain ⟨rfl, rfl, rfl⟩ := trodAll_nil r1
  obtain rfl : args = #[v0, v1] := by cases args; simp_all
  obtain ⟨x0, hx0⟩ := argBlower Try.underlying26 Try.underlying65 Try.underlying2 rfl (by kernel_rfl) (by kernel_rfl) (by kernel_rfl) (hval 0 _ _ rfl rfl) h0 (weight_arg hsz (j := 0) rfl rfl)
  obtain ⟨x1, hx1⟩ := argI Try.underlying22 Try.underlying2 (by kernel_rfl) (by kernel_rfl) (hval 1 _ _ rfl rfl) h1 (weight_arg hsz (j := 1) rfl rfl)
  exact lawBestDay_any _ x0 _ x1 W hx0 hx1 

theorem bestDay_holds : Rows.FnExactBestDaySaid :=
  OpenClaim.holds_of_wide 12 Try.f12 rfl rfl rfl rfl rfl rfl rfl ⟨rfl, rfl, rfl, rfl, rfl⟩ rfl rfl rfl rfl rfl (by kernel_rfl) Try.func12 (by kernel_rfl)
    (of_decide_eq_true (by kernel_rfl)) (by unfold Func.isWrapper; first | (rw [if_pos (by decide +kernel)]; kernel_rfl) | (rw [if_neg (by decide +kernel)]; exact ⟨rfl, rfl⟩))
    (fun os started H enc _ => bestDay_lifted os started H enc)
#print axioms bestDay_holds
end Go.Proofs.Ytjleabgoajoegaa
