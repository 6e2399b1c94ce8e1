/-
FnExactLostOn returns true for all arguments: the program's LostOn and the reference's return the same, and the arguments stay as they were. No condition beyond the form's own reach.
-/
import Derived.Test.YtlgeddbgbcineaaRows
import Derived.Test.YtlgeddbgbcineaaLaw
import Derived.Test.YtlgeddbgbcineaaSensH
import Derived.Test.YtlgeddbgbcineaaIntss
import Derived.Test.YtlgeddbgbcineaaMarkII
import Derived.Test.YtlgeddbgbcineaaKeepII
import Derived.Test.YtlgeddbgbcineaaArgReading
namespace Go.Proofs.Ytlgeddbgbcineaa
open Go.ChangeShapes Go.WideShapes Go.ChangeAt Go.RowKit Go.Deep Go.Joins
set_option linter.unusedVariables false

theorem markReading_lawLostOn (v : Value) (ts : List Reading) (k0 : Int) (w : World) (lo : Nat) (hv : OwReading w lo v ts) (h0 : 0 ≤ k0) (h1 : k0 ≤ 1152921504606846976) :
    Calls Try.prog 36 #[v, .int .i64 k0] w fun e w' => e = .returned (.int .i64 (k0 + ts.length * 2)) ∧ Ow w' lo 35 2 v ts.length ((marks k0 (ts.length * 2)).map (Value.int .i64)) ∧ w.grownBy w' v.ownBlock := by
  have hl : (ts.flatMap fun t => [t.sensor, t.tick]).length = ts.length * 2 := flat_len (fun t : Reading => [t.sensor, t.tick]) 2 (fun _ => rfl) ts
  have h := markReadingS_any v ts.length (ts.flatMap fun t => [t.sensor, t.tick]) k0 w lo (by rw [List.map_flatMap]; exact hv) h0 h1
  rw [hl] at h
  refine h.mono ?_
  rintro e w' ⟨rfl, h2, h3⟩
  exact ⟨by simp, h2, h3⟩

set_option maxHeartbeats 2000000 in
theorem lawLostOn_any (v0 : Value) (x0 : List (List Int)) (v1 : Value) (x1 : List Reading) (v2 : Value) (x2 : List (List Int)) (w : World) (h0 : SlII w v0 x0) (h1 : SlReading w v1 x1) (h2 : SlII w v2 x2)  : Calls Try.prog 10 #[v0, v1, v2] w fun e w' => e = .returned (.bool true) ∧ Below w.heap.size w w' := by
  have hs := fun (u0 : Value) (u1 : Value) (u2 : Value) (W : World) (k0 : SlII W u0 x0) (k1 : SlReading W u1 x1) (k2 : SlII W u2 x2) => specLost_any u0 u1 u2 x0 x1 x2 W k0 k1 k2 
  have hi := fun (u0 : Value) (u1 : Value) (u2 : Value) (W : World) (k0 : SlII W u0 x0) (k1 : SlReading W u1 x1) (k2 : SlII W u2 x2) => implLost_any u0 u1 u2 x0 x1 x2 W k0 k1 k2 
  generalize (lostR x0 x1 x2).1 = r0 at hs hi
  generalize (lostR x0 x1 x2).2 = r1 at hs hi
  have HS := Lib.hid hs; have HI := Lib.hid hi
  clear hs hi
  have HV0 := Lib.hid h0
  have HV1 := Lib.hid h1
  have HV2 := Lib.hid h2
  obtain ⟨A1, c1, rfl, hl1, _⟩ := h1.op
  clear h0
  clear h2
  clear h1
  go_enter Try.func10, Try.ntmps10
  go_wp2_with fail
  refine (szInt64SS_any _ x0 _ _ HV0.out (by omega) (by omega)).mono ?_
  rintro e w1 ⟨⟨s0, rfl, hs0⟩, rfl⟩
  by_cases g0 : s0 < 0
  · clear hs0
    go_wp2
    go_ret
    exact ⟨rfl, Below.refl _ _⟩
  have z0 : x0.length ≤ 1048576 := by unfold total at hs0; omega
  have q0 : 0 ≤ s0 ∧ s0 ≤ 1048576 := by unfold total at hs0; omega
  obtain ⟨qa0, qb0⟩ := q0
  have Z0 : Hid (total x0 ≤ 1048576) := Lib.hid (by omega)
  clear hs0
  go_wp2_with fail
  refine (szReadingS_any _ _ _ _ _ hl1 (by omega) (by omega)).mono ?_
  rintro e w1 ⟨rfl, rfl⟩
  generalize hse1 : szOf s0 x1.length = s1
  have hs1 := szOf_or hse1.symm
  clear hse1
  by_cases g1 : s1 < 0
  · clear hs1
    go_wp2
    go_ret
    exact ⟨rfl, Below.refl _ _⟩
  have z1 : x1.length ≤ 1048576 := by omega
  have q1 : 0 ≤ s1 ∧ s1 ≤ 1048576 := by omega
  obtain ⟨qa1, qb1⟩ := q1
  clear hs1
  go_wp2_with fail
  refine (szInt64SS_any _ x2 _ _ HV2.out (by omega) (by omega)).mono ?_
  rintro e w1 ⟨⟨s2, rfl, hs2⟩, rfl⟩
  by_cases g2 : s2 < 0
  · clear hs2
    go_wp2
    go_ret
    exact ⟨rfl, Below.refl _ _⟩
  have z2 : x2.length ≤ 1048576 := by unfold total at hs2; omega
  have q2 : 0 ≤ s2 ∧ s2 ≤ 1048576 := by unfold total at hs2; omega
  obtain ⟨qa2, qb2⟩ := q2
  have Z2 : Hid (total x2 ≤ 1048576) := Lib.hid (by omega)
  clear hs2
  have hb := Below.refl w.heap.size w
  go_wp2_with fail
  refine (toInt64SS_any _ x0 _ (HV0.out.ex hb) z0).mono ?_
  rintro e w2 ⟨As0, cs0, uss0, rfl, os0, hn⟩
  replace hb := below_next0 hb hn
  clear hn
  go_wp2_with fail
  refine (toReadingS_any _ x1 _ (HV1.out.ex hb) z1).mono ?_
  rintro e w3 ⟨As1, cs1, rfl, os1, hn⟩
  replace os0 := os0.ex hn
  replace hb := below_next0 hb hn
  clear hn
  go_wp2_with fail
  refine (toInt64SS_any _ x2 _ (HV2.out.ex hb) z2).mono ?_
  rintro e w4 ⟨As2, cs2, uss2, rfl, os2, hn⟩
  replace os0 := os0.ex hn
  replace os1 := os1.ex hn
  replace hb := below_next0 hb hn
  clear hn
  go_wp2_with fail
  refine (HS.out _ _ _ _ os0.sl os1.sl os2.sl).mono ?_
  rintro e w5 ⟨Aow, cow, rfl, ow, hn⟩
  replace os0 := os0.ex hn
  replace os1 := os1.ex hn
  replace os2 := os2.ex hn
  replace hb := below_next0 hb hn
  clear hn
  clear os0
  clear os1
  clear os2
  go_wp2_with fail
  refine (toInt64SS_any _ x0 _ (HV0.out.ex hb) z0).mono ?_
  rintro e w6 ⟨Ax0, cx0, usx0, rfl, ox0, hn⟩
  have sp_ow_ox0 := OwII.sepL ow ox0 (Nat.le_refl _)
  replace ow := ow.ex hn
  have hbs := hb.size
  replace hb := below_next0 hb hn
  clear hn
  have hlo_ox0 := hbs
  clear hbs
  go_wp2_with fail
  refine (toReadingS_any _ x1 _ (HV1.out.ex hb) z1).mono ?_
  rintro e w7 ⟨Ax1, cx1, rfl, ox1, hn⟩
  have sp_ow_ox1 := Ow.sep_new ow ox1 (Nat.le_refl _)
  have sp_ox1_ow := Ow.sep_new' ow ox1 (Nat.le_refl _)
  have sp_ox1_ox0 := OwII.sepR ox0 ox1 (Nat.le_refl _)
  replace ow := ow.ex hn
  replace ox0 := ox0.ex hn
  have hbs := hb.size
  replace hb := below_next0 hb hn
  clear hn
  have hlo_ox1 := hbs
  clear hbs
  go_wp2_with fail
  refine (toInt64SS_any _ x2 _ (HV2.out.ex hb) z2).mono ?_
  rintro e w8 ⟨Ax2, cx2, usx2, rfl, ox2, hn⟩
  have sp_ow_ox2 := OwII.sepL ow ox2 (Nat.le_refl _)
  have spr_ox2_ox0 := ApartIIII.new ox0 ox2 (Nat.le_refl _)
  have sp_ox1_ox2 := OwII.sepL ox1 ox2 (Nat.le_refl _)
  have spr_ox2_ox1 := ApartII.new ox1 ox2 (Nat.le_refl _)
  replace ow := ow.ex hn
  replace ox0 := ox0.ex hn
  replace ox1 := ox1.ex hn
  have hbs := hb.size
  replace hb := below_next0 hb hn
  clear hn
  have hlo_ox2 := hbs
  clear hbs
  go_wp2_with fail
  refine (HI.out _ _ _ _ ox0.sl ox1.sl ox2.sl).mono ?_
  rintro e w9 ⟨Aog, cog, rfl, og, hn⟩
  have sp_ow_og := Ow.sep_new ow og (Nat.le_refl _)
  have sp_og_ow := Ow.sep_new' ow og (Nat.le_refl _)
  have sp_og_ox0 := OwII.sepR ox0 og (Nat.le_refl _)
  have sp_ox1_og := Ow.sep_new ox1 og (Nat.le_refl _)
  have sp_og_ox1 := Ow.sep_new' ox1 og (Nat.le_refl _)
  have sp_og_ox2 := OwII.sepR ox2 og (Nat.le_refl _)
  replace ow := ow.ex hn
  replace ox0 := ox0.ex hn
  replace ox1 := ox1.ex hn
  replace ox2 := ox2.ex hn
  have hbs := hb.size
  replace hb := below_next0 hb hn
  clear hn
  have hlo_og := hbs
  clear hbs
  go_wp2_with fail
  refine (calls_drew_below (eqInt64S_any _ _ r0 r0 _ og.sl ow.sl)).mono ?_
  rintro e w10 ⟨rfl, hn⟩
  replace ow := ow.ex hn
  replace ox0 := ox0.ex hn
  replace ox1 := ox1.ex hn
  replace ox2 := ox2.ex hn
  replace og := og.ex hn
  replace hb := below_next0 hb hn
  clear hn
  simp only [decide_true]
  go_wp2_with fail
  refine (toInt64SS_any _ x0 _ (HV0.out.ex hb) z0).mono ?_
  rintro e w11 ⟨Ay0, cy0, usy0, rfl, oy0, hn⟩
  replace ow := ow.ex hn
  replace ox0 := ox0.ex hn
  replace ox1 := ox1.ex hn
  replace ox2 := ox2.ex hn
  replace og := og.ex hn
  replace hb := below_next0 hb hn
  clear hn
  go_wp2_with fail
  refine (eqInt64SS_any _ _ x0 x0 _ ox0.sl oy0.sl).mono ?_
  rintro e w12 ⟨rfl, hn⟩
  replace ow := ow.ex hn
  replace ox0 := ox0.ex hn
  replace ox1 := ox1.ex hn
  replace ox2 := ox2.ex hn
  replace og := og.ex hn
  replace oy0 := oy0.ex hn
  replace hb := below_next0 hb hn
  clear hn
  simp only [decide_true]
  clear oy0
  go_wp2_with fail
  refine (toReadingS_any _ x1 _ (HV1.out.ex hb) z1).mono ?_
  rintro e w13 ⟨Ay1, cy1, rfl, oy1, hn⟩
  replace ow := ow.ex hn
  replace ox0 := ox0.ex hn
  replace ox1 := ox1.ex hn
  replace ox2 := ox2.ex hn
  replace og := og.ex hn
  replace hb := below_next0 hb hn
  clear hn
  go_wp2_with fail
  refine (eqReadingS_any _ _ x1 x1 _ ox1.sl oy1.sl).mono ?_
  rintro e w14 ⟨rfl, hn⟩
  replace ow := ow.ex hn
  replace ox0 := ox0.ex hn
  replace ox1 := ox1.ex hn
  replace ox2 := ox2.ex hn
  replace og := og.ex hn
  replace oy1 := oy1.ex hn
  replace hb := below_next0 hb hn
  clear hn
  simp only [decide_true]
  clear oy1
  go_wp2_with fail
  refine (toInt64SS_any _ x2 _ (HV2.out.ex hb) z2).mono ?_
  rintro e w15 ⟨Ay2, cy2, usy2, rfl, oy2, hn⟩
  replace ow := ow.ex hn
  replace ox0 := ox0.ex hn
  replace ox1 := ox1.ex hn
  replace ox2 := ox2.ex hn
  replace og := og.ex hn
  replace hb := below_next0 hb hn
  clear hn
  go_wp2_with fail
  refine (eqInt64SS_any _ _ x2 x2 _ ox2.sl oy2.sl).mono ?_
  rintro e w16 ⟨rfl, hn⟩
  replace ow := ow.ex hn
  replace ox0 := ox0.ex hn
  replace ox1 := ox1.ex hn
  replace ox2 := ox2.ex hn
  replace og := og.ex hn
  replace oy2 := oy2.ex hn
  replace hb := below_next0 hb hn
  clear hn
  simp only [decide_true]
  clear oy2
  go_wp2_with fail
  refine (markInt64SS_any _ _ x0 _ _ _ ox0 (by omega) (by omega) (by omega) (sumLen_le Z0.out)).mono ?_
  rintro e w17 ⟨rfl, mk, mb⟩
  replace hb := mb _ _ hb hlo_ox0 hb.size
  replace ow := mk _ _ _ _ _ _ ow sp_ow_ox0
  replace ox1 := mk _ _ _ _ _ _ ox1 sp_ox1_ox0
  replace ox2 := OwII.keptM ox2 mk spr_ox2_ox0
  replace og := mk _ _ _ _ _ _ og sp_og_ox0
  have hsn0 := sumLen_bd Z0.out
  generalize sumLen x0 x0.length = sl0 at hsn0 ⊢
  obtain ⟨hsa0, hsb0⟩ := hsn0
  clear ox0 mk mb
  go_wp2_with fail
  refine (markReading_lawLostOn _ x1 _ _ _ ox1 (by omega) (by omega)).mono ?_
  rintro e w18 ⟨rfl, mo, hg⟩
  have hbm := below_own hb ox1 hg hb.size hlo_ox1
  replace ow := ow.keptS hg sp_ow_ox1
  replace ox2 := OwII.keptG ox2 hg spr_ox2_ox1
  replace og := og.keptS hg sp_og_ox1
  replace hb := hbm
  clear hbm hg
  clear ox1 mo
  go_wp2_with fail
  refine (markInt64SS_any _ _ x2 _ _ _ ox2 (by omega) (by omega) (by omega) (sumLen_le Z2.out)).mono ?_
  rintro e w19 ⟨rfl, mk, mb⟩
  replace hb := mb _ _ hb hlo_ox2 hb.size
  replace ow := mk _ _ _ _ _ _ ow sp_ow_ox2
  replace og := mk _ _ _ _ _ _ og sp_og_ox2
  have hsn2 := sumLen_bd Z2.out
  generalize sumLen x2 x2.length = sl2 at hsn2 ⊢
  obtain ⟨hsa2, hsb2⟩ := hsn2
  clear ox2 mk mb
  go_wp2_with fail
  refine (calls_drew_below (eqInt64S_any _ _ r0 r0 _ og.sl ow.sl)).mono ?_
  rintro e w20 ⟨rfl, hn⟩
  replace ow := ow.ex hn
  replace og := og.ex hn
  replace hb := below_next0 hb hn
  clear hn
  simp only [decide_true]
  go_wp2_with fail
  refine (markInt64S_any _ r0 _ _ _ og (by omega) (by omega)).mono ?_
  rintro e w21 ⟨rfl, mo, hg⟩
  have hbm := below_own hb og hg hb.size hlo_og
  replace ow := ow.keptS hg sp_ow_og
  replace hb := hbm
  clear hbm hg
  replace og := mo
  clear mo
  go_wp2_with fail
  refine (heldInt64S_any _ r0.length 1 _ og.sl (by omega) (by omega)).mono ?_
  rintro e w22 ⟨rfl, rfl⟩
  go_wp2_with fail
  refine (toInt64SS_any _ x0 _ (HV0.out.ex hb) z0).mono ?_
  rintro e w23 ⟨Az0, cz0, usz0, rfl, oz0, hn⟩
  replace ow := ow.ex hn
  replace og := og.ex hn
  replace hb := below_next0 hb hn
  clear hn
  go_wp2_with fail
  refine (toReadingS_any _ x1 _ (HV1.out.ex hb) z1).mono ?_
  rintro e w24 ⟨Az1, cz1, rfl, oz1, hn⟩
  replace ow := ow.ex hn
  replace og := og.ex hn
  replace oz0 := oz0.ex hn
  replace hb := below_next0 hb hn
  clear hn
  go_wp2_with fail
  refine (toInt64SS_any _ x2 _ (HV2.out.ex hb) z2).mono ?_
  rintro e w25 ⟨Az2, cz2, usz2, rfl, oz2, hn⟩
  replace ow := ow.ex hn
  replace og := og.ex hn
  replace oz0 := oz0.ex hn
  replace oz1 := oz1.ex hn
  replace hb := below_next0 hb hn
  clear hn
  go_wp2_with fail
  refine (HI.out _ _ _ _ oz0.sl oz1.sl oz2.sl).mono ?_
  rintro e w26 ⟨Aoh, coh, rfl, oh, hn⟩
  replace ow := ow.ex hn
  replace og := og.ex hn
  replace oz0 := oz0.ex hn
  replace oz1 := oz1.ex hn
  replace oz2 := oz2.ex hn
  replace hb := below_next0 hb hn
  clear hn
  clear oz0
  clear oz1
  clear oz2
  go_wp2_with fail
  refine (calls_drew_below (eqInt64S_any _ _ r0 r0 _ oh.sl ow.sl)).mono ?_
  rintro e w27 ⟨rfl, hn⟩
  replace ow := ow.ex hn
  replace og := og.ex hn
  replace oh := oh.ex hn
  replace hb := below_next0 hb hn
  clear hn
  simp only [decide_true]
  go_wp2_with fail
  refine (heldInt64S_any _ r0.length 1 _ og.sl (by omega) (by omega)).mono ?_
  rintro e w28 ⟨rfl, rfl⟩
  go_wp2
  go_ret
  exact ⟨rfl, hb⟩

set_option maxRecDepth 100000 in
theorem lostOn_lifted (os : Os) (started : os.Started) (H : Type) (enc : TypeId × Value → H) :
    ReturnsInHanded {} Try.checked os 10 .any (Rows.fnExactLostOnSpec.pre6 enc Try.checked.prog Try.f10 Rows.fnExactLostOnRow.domain false) (Rows.fnExactLostOnSpec.post enc Try.checked.prog Try.f10 false true false false) := by
  refine law_lifted os started H enc (by kernel_rfl) Try.func10
    (ChangeSpec.witness6 (enc := enc) (C := Try.checked) false ⟨#[], #[.slice none 0 0, .slice none 0 0, .slice none 0 0], []⟩ 8 (by kernel_rfl) (by kernel_rfl) (by kernel_rfl) (by kernel_rfl))
    rfl rfl rfl (by rw [Try.params10]; intro t ht; simp only [List.mem_cons, List.not_mem_nil, or_false] at ht; rcases ht with rfl | rfl | rfl <;> exact ⟨by kernel_rfl, of_decide_eq_true (by kernel_rfl)⟩)
    (fun ds hl => by match ds, hl with | [d0, d1, d2], _ => exact ⟨rfl, rfl, rfl⟩) ?_
  intro W base args ds p hval hA hlt hsz
  rw [Try.params10] at hA hval hsz
  obtain ⟨v0, vs0, d0, ds0, p0, q0, hargs, rfl, rfl, h0, r0⟩ := trodAll_cons hA
  obtain ⟨v1, vs1, d1, ds1, p1, q1, rfl, rfl, rfl, h1, r1⟩ := trodAll_cons r0
  obtain ⟨v2, vs2, d2, ds2, p2, q2, rfl, rfl, rfl, h2, r2⟩ := trodAll_cons r1
  obtain ⟨rfl, rfl, rfl⟩ := trodAll_nil r2
  obtain rfl : args = #[v0, v1, v2] := by cases args; simp_all
  obtain ⟨x0, hx0⟩ := argII Try.underlying22 Try.underlying49 Try.underlying2 (by kernel_rfl) (by kernel_rfl) (by kernel_rfl) (by kernel_rfl) (hval 0 _ _ rfl rfl) h0 (weight_arg hsz (j := 0) rfl rfl)
  obtain ⟨x1, hx1⟩ := argReading Try.underlying43 Try.underlying39 Try.underlying2 rfl (by kernel_rfl) (by kernel_rfl) (by kernel_rfl) (hval 1 _ _ rfl rfl) h1 (weight_arg hsz (j := 1) rfl rfl)
  obtain ⟨x2, hx2⟩ := argII Try.underlying22 Try.underlying49 Try.underlying2 (by kernel_rfl) (by kernel_rfl) (by kernel_rfl) (by kernel_rfl) (hval 2 _ _ rfl rfl) h2 (weight_arg hsz (j := 2) rfl rfl)
  exact lawLostOn_any _ x0 _ x1 _ x2 W hx0 hx1 hx2 

theorem lostOn_holds : Rows.FnExactLostOnSaid :=
  OpenClaim.holds_of_wide 10 Try.f10 rfl rfl rfl rfl rfl rfl rfl ⟨rfl, rfl, rfl, rfl, rfl⟩ rfl rfl rfl rfl rfl (by kernel_rfl) Try.func10 (by kernel_rfl)
    (of_decide_eq_true (by kernel_rfl)) (by unfold Func.isWrapper; first | (rw [if_pos (by decide +kernel)]; kernel_rfl) | (rw [if_neg (by decide +kernel)]; exact ⟨rfl, rfl⟩))
    (fun os started H enc _ => lostOn_lifted os started H enc)
#print axioms lostOn_holds
end Go.Proofs.Ytlgeddbgbcineaa
