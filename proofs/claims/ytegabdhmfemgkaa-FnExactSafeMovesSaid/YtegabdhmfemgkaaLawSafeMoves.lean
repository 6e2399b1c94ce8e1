/-
FnExactSafeMoves returns true for all arguments: the program's SafeMoves and the reference's return the same, and the arguments stay as they were. No condition beyond the form's own reach.
-/
import Derived.Test.YtegabdhmfemgkaaRows
import Derived.Test.YtegabdhmfemgkaaLaw
import Derived.Test.YtegabdhmfemgkaaPolS
import Derived.Test.YtegabdhmfemgkaaKeepII
import Derived.Test.YtegabdhmfemgkaaIntss
import Derived.Test.YtegabdhmfemgkaaMarkII
import Derived.Test.YtegabdhmfemgkaaKeepII
namespace Go.Proofs.Ytegabdhmfemgkaa
open Go.ChangeShapes Go.WideShapes Go.ChangeAt Go.RowKit Go.Deep Go.Joins
set_option linter.unusedVariables false

set_option maxHeartbeats 2000000 in
theorem lawSafeMoves_any (v0 : Value) (x0 : List Int) (v1 : Value) (x1 : List (List Int)) (v2 : Value) (x2 : List Int) (w : World) (h0 : SlI w v0 x0) (h1 : SlII w v1 x1) (h2 : SlI w v2 x2)  : Calls Try.prog 15 #[v0, v1, v2] w fun e w' => e = .returned (.bool true) ∧ Below w.heap.size w w' := by
  have hs := fun (u0 : Value) (u1 : Value) (u2 : Value) (W : World) (k0 : SlI W u0 x0) (k1 : SlII W u1 x1) (k2 : SlI W u2 x2) => specSafeMoves_any u0 u1 u2 x0 x1 x2 W k0 k1 k2 
  have hi := fun (u0 : Value) (u1 : Value) (u2 : Value) (W : World) (k0 : SlI W u0 x0) (k1 : SlII W u1 x1) (k2 : SlI W u2 x2) => implSafeMoves_any u0 u1 u2 x0 x1 x2 W k0 k1 k2 
  generalize (safeMR x0 x1 x2).1 = r0 at hs hi
  generalize (safeMR x0 x1 x2).2 = r1 at hs hi
  have HS := Lib.hid hs; have HI := Lib.hid hi
  clear hs hi
  have HV0 := Lib.hid h0
  have HV1 := Lib.hid h1
  have HV2 := Lib.hid h2
  obtain ⟨A0, c0, rfl, hl0, _⟩ := h0.op
  obtain ⟨A2, c2, rfl, hl2, _⟩ := h2.op
  clear h1
  clear h0
  clear h2
  by_cases y0 : 1048576 < x0.length
  · go_enter Try.func15, Try.ntmps15
    go_wp2
    go_ret
    exact ⟨rfl, Below.refl _ _⟩
  by_cases y2 : 1048576 < x2.length
  · go_enter Try.func15, Try.ntmps15
    go_wp2
    go_ret
    exact ⟨rfl, Below.refl _ _⟩
  have z0 : x0.length ≤ 1048576 := by omega
  clear y0
  have z2 : x2.length ≤ 1048576 := by omega
  clear y2
  go_enter Try.func15, Try.ntmps15
  go_wp2_with fail
  refine (szInt64SS_any _ x1 _ _ HV1.out (by omega) (by omega)).mono ?_
  rintro e w1 ⟨⟨s1, rfl, hs1⟩, rfl⟩
  by_cases g1 : s1 < 0
  · clear hs1
    go_wp2
    go_ret
    exact ⟨rfl, Below.refl _ _⟩
  have z1 : x1.length ≤ 1048576 := by unfold total at hs1; omega
  have q1 : 0 ≤ s1 ∧ s1 ≤ 1048576 := by unfold total at hs1; omega
  obtain ⟨qa1, qb1⟩ := q1
  have Z1 : Hid (total x1 ≤ 1048576) := Lib.hid (by omega)
  clear hs1
  have hb := Below.refl w.heap.size w
  go_wp2_with fail
  refine (toInt64S_any _ x0 _ (HV0.out.ex hb)).mono ?_
  rintro e w2 ⟨As0, cs0, rfl, os0, hn⟩
  replace hb := below_next0 hb hn
  clear hn
  go_wp2_with fail
  refine (toInt64SS_any _ x1 _ (HV1.out.ex hb) z1).mono ?_
  rintro e w3 ⟨As1, cs1, uss1, rfl, os1, hn⟩
  replace os0 := os0.ex hn
  replace hb := below_next0 hb hn
  clear hn
  go_wp2_with fail
  refine (toInt64S_any _ x2 _ (HV2.out.ex hb)).mono ?_
  rintro e w4 ⟨As2, cs2, rfl, os2, hn⟩
  replace os0 := os0.ex hn
  replace os1 := os1.ex hn
  replace hb := below_next0 hb hn
  clear hn
  go_wp2_with fail
  refine (HS.out _ _ _ _ os0.sl os1.sl os2.sl).mono ?_
  rintro e w5 ⟨Aow, cow, rfl, ow, hn⟩
  replace os0 := os0.ex hn
  replace os1 := os1.ex hn
  replace os2 := os2.ex hn
  replace hb := below_next0 hb hn
  clear hn
  clear os0
  clear os1
  clear os2
  go_wp2_with fail
  refine (toInt64S_any _ x0 _ (HV0.out.ex hb)).mono ?_
  rintro e w6 ⟨Ax0, cx0, rfl, ox0, hn⟩
  have sp_ow_ox0 := Ow.sep_new ow ox0 (Nat.le_refl _)
  have sp_ox0_ow := Ow.sep_new' ow ox0 (Nat.le_refl _)
  replace ow := ow.ex hn
  have hbs := hb.size
  replace hb := below_next0 hb hn
  clear hn
  have hlo_ox0 := hbs
  clear hbs
  go_wp2_with fail
  refine (toInt64SS_any _ x1 _ (HV1.out.ex hb) z1).mono ?_
  rintro e w7 ⟨Ax1, cx1, usx1, rfl, ox1, hn⟩
  have sp_ow_ox1 := OwII.sepL ow ox1 (Nat.le_refl _)
  have sp_ox0_ox1 := OwII.sepL ox0 ox1 (Nat.le_refl _)
  have spr_ox1_ox0 := ApartII.new ox0 ox1 (Nat.le_refl _)
  replace ow := ow.ex hn
  replace ox0 := ox0.ex hn
  have hbs := hb.size
  replace hb := below_next0 hb hn
  clear hn
  have hlo_ox1 := hbs
  clear hbs
  go_wp2_with fail
  refine (toInt64S_any _ x2 _ (HV2.out.ex hb)).mono ?_
  rintro e w8 ⟨Ax2, cx2, rfl, ox2, hn⟩
  have sp_ow_ox2 := Ow.sep_new ow ox2 (Nat.le_refl _)
  have sp_ox2_ow := Ow.sep_new' ow ox2 (Nat.le_refl _)
  have sp_ox0_ox2 := Ow.sep_new ox0 ox2 (Nat.le_refl _)
  have sp_ox2_ox0 := Ow.sep_new' ox0 ox2 (Nat.le_refl _)
  have sp_ox2_ox1 := OwII.sepR ox1 ox2 (Nat.le_refl _)
  replace ow := ow.ex hn
  replace ox0 := ox0.ex hn
  replace ox1 := ox1.ex hn
  have hbs := hb.size
  replace hb := below_next0 hb hn
  clear hn
  have hlo_ox2 := hbs
  clear hbs
  go_wp2_with fail
  refine (HI.out _ _ _ _ ox0.sl ox1.sl ox2.sl).mono ?_
  rintro e w9 ⟨Aog, cog, rfl, og, hn⟩
  have sp_ow_og := Ow.sep_new ow og (Nat.le_refl _)
  have sp_og_ow := Ow.sep_new' ow og (Nat.le_refl _)
  have sp_ox0_og := Ow.sep_new ox0 og (Nat.le_refl _)
  have sp_og_ox0 := Ow.sep_new' ox0 og (Nat.le_refl _)
  have sp_og_ox1 := OwII.sepR ox1 og (Nat.le_refl _)
  have sp_ox2_og := Ow.sep_new ox2 og (Nat.le_refl _)
  have sp_og_ox2 := Ow.sep_new' ox2 og (Nat.le_refl _)
  replace ow := ow.ex hn
  replace ox0 := ox0.ex hn
  replace ox1 := ox1.ex hn
  replace ox2 := ox2.ex hn
  have hbs := hb.size
  replace hb := below_next0 hb hn
  clear hn
  have hlo_og := hbs
  clear hbs
  go_wp2_with fail
  refine (calls_drew_below (eqInt64S_any _ _ r0 r0 _ og.sl ow.sl)).mono ?_
  rintro e w10 ⟨rfl, hn⟩
  replace ow := ow.ex hn
  replace ox0 := ox0.ex hn
  replace ox1 := ox1.ex hn
  replace ox2 := ox2.ex hn
  replace og := og.ex hn
  replace hb := below_next0 hb hn
  clear hn
  simp only [decide_true]
  go_wp2_with fail
  refine (toInt64S_any _ x0 _ (HV0.out.ex hb)).mono ?_
  rintro e w11 ⟨Ay0, cy0, rfl, oy0, hn⟩
  replace ow := ow.ex hn
  replace ox0 := ox0.ex hn
  replace ox1 := ox1.ex hn
  replace ox2 := ox2.ex hn
  replace og := og.ex hn
  replace hb := below_next0 hb hn
  clear hn
  go_wp2_with fail
  refine (calls_drew_below (eqInt64S_any _ _ x0 x0 _ ox0.sl oy0.sl)).mono ?_
  rintro e w12 ⟨rfl, hn⟩
  replace ow := ow.ex hn
  replace ox0 := ox0.ex hn
  replace ox1 := ox1.ex hn
  replace ox2 := ox2.ex hn
  replace og := og.ex hn
  replace oy0 := oy0.ex hn
  replace hb := below_next0 hb hn
  clear hn
  simp only [decide_true]
  clear oy0
  go_wp2_with fail
  refine (toInt64SS_any _ x1 _ (HV1.out.ex hb) z1).mono ?_
  rintro e w13 ⟨Ay1, cy1, usy1, rfl, oy1, hn⟩
  replace ow := ow.ex hn
  replace ox0 := ox0.ex hn
  replace ox1 := ox1.ex hn
  replace ox2 := ox2.ex hn
  replace og := og.ex hn
  replace hb := below_next0 hb hn
  clear hn
  go_wp2_with fail
  refine (eqInt64SS_any _ _ x1 x1 _ ox1.sl oy1.sl).mono ?_
  rintro e w14 ⟨rfl, hn⟩
  replace ow := ow.ex hn
  replace ox0 := ox0.ex hn
  replace ox1 := ox1.ex hn
  replace ox2 := ox2.ex hn
  replace og := og.ex hn
  replace oy1 := oy1.ex hn
  replace hb := below_next0 hb hn
  clear hn
  simp only [decide_true]
  clear oy1
  go_wp2_with fail
  refine (toInt64S_any _ x2 _ (HV2.out.ex hb)).mono ?_
  rintro e w15 ⟨Ay2, cy2, rfl, oy2, hn⟩
  replace ow := ow.ex hn
  replace ox0 := ox0.ex hn
  replace ox1 := ox1.ex hn
  replace ox2 := ox2.ex hn
  replace og := og.ex hn
  replace hb := below_next0 hb hn
  clear hn
  go_wp2_with fail
  refine (calls_drew_below (eqInt64S_any _ _ x2 x2 _ ox2.sl oy2.sl)).mono ?_
  rintro e w16 ⟨rfl, hn⟩
  replace ow := ow.ex hn
  replace ox0 := ox0.ex hn
  replace ox1 := ox1.ex hn
  replace ox2 := ox2.ex hn
  replace og := og.ex hn
  replace oy2 := oy2.ex hn
  replace hb := below_next0 hb hn
  clear hn
  simp only [decide_true]
  clear oy2
  go_wp2_with fail
  refine (markInt64S_any _ x0 _ _ _ ox0 (by omega) (by omega)).mono ?_
  rintro e w17 ⟨rfl, mo, hg⟩
  have hbm := below_own hb ox0 hg hb.size hlo_ox0
  replace ow := ow.keptS hg sp_ow_ox0
  replace ox1 := OwII.keptG ox1 hg spr_ox1_ox0
  replace ox2 := ox2.keptS hg sp_ox2_ox0
  replace og := og.keptS hg sp_og_ox0
  replace hb := hbm
  clear hbm hg
  clear ox0 mo
  go_wp2_with fail
  refine (markInt64SS_any _ _ x1 _ _ _ ox1 (by omega) (by omega) (by omega) (sumLen_le Z1.out)).mono ?_
  rintro e w18 ⟨rfl, mk, mb⟩
  replace hb := mb _ _ hb hlo_ox1 hb.size
  replace ow := mk _ _ _ _ _ _ ow sp_ow_ox1
  replace ox2 := mk _ _ _ _ _ _ ox2 sp_ox2_ox1
  replace og := mk _ _ _ _ _ _ og sp_og_ox1
  have hsn1 := sumLen_bd Z1.out
  generalize sumLen x1 x1.length = sl1 at hsn1 ⊢
  obtain ⟨hsa1, hsb1⟩ := hsn1
  clear ox1 mk mb
  go_wp2_with fail
  refine (markInt64S_any _ x2 _ _ _ ox2 (by omega) (by omega)).mono ?_
  rintro e w19 ⟨rfl, mo, hg⟩
  have hbm := below_own hb ox2 hg hb.size hlo_ox2
  replace ow := ow.keptS hg sp_ow_ox2
  replace og := og.keptS hg sp_og_ox2
  replace hb := hbm
  clear hbm hg
  clear ox2 mo
  go_wp2_with fail
  refine (calls_drew_below (eqInt64S_any _ _ r0 r0 _ og.sl ow.sl)).mono ?_
  rintro e w20 ⟨rfl, hn⟩
  replace ow := ow.ex hn
  replace og := og.ex hn
  replace hb := below_next0 hb hn
  clear hn
  simp only [decide_true]
  go_wp2_with fail
  refine (markInt64S_any _ r0 _ _ _ og (by omega) (by omega)).mono ?_
  rintro e w21 ⟨rfl, mo, hg⟩
  have hbm := below_own hb og hg hb.size hlo_og
  replace ow := ow.keptS hg sp_ow_og
  replace hb := hbm
  clear hbm hg
  replace og := mo
  clear mo
  go_wp2_with fail
  refine (heldInt64S_any _ r0.length 1 _ og.sl (by omega) (by omega)).mono ?_
  rintro e w22 ⟨rfl, rfl⟩
  go_wp2_with fail
  refine (toInt64S_any _ x0 _ (HV0.out.ex hb)).mono ?_
  rintro e w23 ⟨Az0, cz0, rfl, oz0, hn⟩
  replace ow := ow.ex hn
  replace og := og.ex hn
  replace hb := below_next0 hb hn
  clear hn
  go_wp2_with fail
  refine (toInt64SS_any _ x1 _ (HV1.out.ex hb) z1).mono ?_
  rintro e w24 ⟨Az1, cz1, usz1, rfl, oz1, hn⟩
  replace ow := ow.ex hn
  replace og := og.ex hn
  replace oz0 := oz0.ex hn
  replace hb := below_next0 hb hn
  clear hn
  go_wp2_with fail
  refine (toInt64S_any _ x2 _ (HV2.out.ex hb)).mono ?_
  rintro e w25 ⟨Az2, cz2, rfl, oz2, hn⟩
  replace ow := ow.ex hn
  replace og := og.ex hn
  replace oz0 := oz0.ex hn
  replace oz1 := oz1.ex hn
  replace hb := below_next0 hb hn
  clear hn
  go_wp2_with fail
  refine (HI.out _ _ _ _ oz0.sl oz1.sl oz2.sl).mono ?_
  rintro e w26 ⟨Aoh, coh, rfl, oh, hn⟩
  replace ow := ow.ex hn
  replace og := og.ex hn
  replace oz0 := oz0.ex hn
  replace oz1 := oz1.ex hn
  replace oz2 := oz2.ex hn
  replace hb := below_next0 hb hn
  clear hn
  clear oz0
  clear oz1
  clear oz2
  go_wp2_with fail
  refine (calls_drew_below (eqInt64S_any _ _ r0 r0 _ oh.sl ow.sl)).mono ?_
  rintro e w27 ⟨rfl, hn⟩
  replace ow := ow.ex hn
  replace og := og.ex hn
  replace oh := oh.ex hn
  replace hb := below_next0 hb hn
  clear hn
  simp only [decide_true]
  go_wp2_with fail
  refine (heldInt64S_any _ r0.length 1 _ og.sl (by omega) (by omega)).mono ?_
  rintro e w28 ⟨rfl, rfl⟩
  go_wp2
  go_ret
  exact ⟨rfl, hb⟩

set_option maxRecDepth 100000 in
theorem safeMoves_lifted (os : Os) (started : os.Started) (H : Type) (enc : TypeId × Value → H) :
    ReturnsInHanded {} Try.checked os 15 .any (Rows.fnExactSafeMovesSpec.pre6 enc Try.checked.prog Try.f15 Rows.fnExactSafeMovesRow.domain false) (Rows.fnExactSafeMovesSpec.post enc Try.checked.prog Try.f15 false true false false) := by
  refine law_lifted os started H enc (by kernel_rfl) Try.func15
    (ChangeSpec.witness6 (enc := enc) (C := Try.checked) false ⟨#[], #[.slice none 0 0, .slice none 0 0, .slice none 0 0], []⟩ 8 (by kernel_rfl) (by kernel_rfl) (by kernel_rfl) (by kernel_rfl))
    rfl rfl rfl (by rw [Try.params15]; intro t ht; simp only [List.mem_cons, List.not_mem_nil, or_false] at ht; rcases ht with rfl | rfl | rfl <;> exact ⟨by kernel_rfl, of_decide_eq_true (by kernel_rfl)⟩)
    (fun ds hl => by match ds, hl with | [d0, d1, d2], _ => exact ⟨rfl, rfl, rfl⟩) ?_
  intro W base args ds p hval hA hlt hsz
  rw [Try.params15] at hA hval hsz
  obtain ⟨v0, vs0, d0, ds0, p0, q0, hargs, rfl, rfl, h0, r0⟩ := trodAll_cons hA
  obtain ⟨v1, vs1, d1, ds1, p1, q1, rfl, rfl, rfl, h1, r1⟩ := trodAll_cons r0
  obtain ⟨v2, vs2, d2, ds2, p2, q2, rfl, rfl, rfl, h2, r2⟩ := trodAll_cons r1
  obtain ⟨rfl, rfl, rfl⟩ := trodAll_nil r2
  obtain rfl : args = #[v0, v1, v2] := by cases args; simp_all
  obtain ⟨x0, hx0⟩ := argI Try.underlying31 Try.underlying2 (by kernel_rfl) (by kernel_rfl) (hval 0 _ _ rfl rfl) h0 (weight_arg hsz (j := 0) rfl rfl)
  obtain ⟨x1, hx1⟩ := argII Try.underlying32 Try.underlying31 Try.underlying2 (by kernel_rfl) (by kernel_rfl) (by kernel_rfl) (by kernel_rfl) (hval 1 _ _ rfl rfl) h1 (weight_arg hsz (j := 1) rfl rfl)
  obtain ⟨x2, hx2⟩ := argI Try.underlying31 Try.underlying2 (by kernel_rfl) (by kernel_rfl) (hval 2 _ _ rfl rfl) h2 (weight_arg hsz (j := 2) rfl rfl)
  exact lawSafeMoves_any _ x0 _ x1 _ x2 W hx0 hx1 hx2 

theorem safeMoves_holds : Rows.FnExactSafeMovesSaid :=
  OpenClaim.holds_of_wide 15 Try.f15 rfl rfl rfl rfl rfl rfl rfl ⟨rfl, rfl, rfl, rfl, rfl⟩ rfl rfl rfl rfl rfl (by kernel_rfl) Try.func15 (by kernel_rfl)
    (of_decide_eq_true (by kernel_rfl)) (by unfold Func.isWrapper; first | (rw [if_pos (by decide +kernel)]; kernel_rfl) | (rw [if_neg (by decide +kernel)]; exact ⟨rfl, rfl⟩))
    (fun os started H enc _ => safeMoves_lifted os started H enc)
#print axioms safeMoves_holds
end Go.Proofs.Ytegabdhmfemgkaa
