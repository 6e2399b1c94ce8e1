/-
FnExactTracksOf returns true for all arguments: the program's TracksOf and the reference's return the same, and the arguments stay as they were. No condition beyond the form's own reach.
-/
import Derived.Test.YtlgeddbgbcineaaRows
import Derived.Test.YtlgeddbgbcineaaLaw
import Derived.Test.YtlgeddbgbcineaaTrkT
import Derived.Test.YtlgeddbgbcineaaIntss
import Derived.Test.YtlgeddbgbcineaaMarkII
import Derived.Test.YtlgeddbgbcineaaKeepII
import Derived.Test.YtlgeddbgbcineaaArgReading
namespace Go.Proofs.Ytlgeddbgbcineaa
open Go.ChangeShapes Go.WideShapes Go.ChangeAt Go.RowKit Go.Deep Go.Joins
set_option linter.unusedVariables false

theorem markReading_lawTracksOf (v : Value) (ts : List Reading) (k0 : Int) (w : World) (lo : Nat) (hv : OwReading w lo v ts) (h0 : 0 ≤ k0) (h1 : k0 ≤ 1152921504606846976) :
    Calls Try.prog 36 #[v, .int .i64 k0] w fun e w' => e = .returned (.int .i64 (k0 + ts.length * 2)) ∧ Ow w' lo 35 2 v ts.length ((marks k0 (ts.length * 2)).map (Value.int .i64)) ∧ w.grownBy w' v.ownBlock := by
  have hl : (ts.flatMap fun t => [t.sensor, t.tick]).length = ts.length * 2 := flat_len (fun t : Reading => [t.sensor, t.tick]) 2 (fun _ => rfl) ts
  have h := markReadingS_any v ts.length (ts.flatMap fun t => [t.sensor, t.tick]) k0 w lo (by rw [List.map_flatMap]; exact hv) h0 h1
  rw [hl] at h
  refine h.mono ?_
  rintro e w' ⟨rfl, h2, h3⟩
  exact ⟨by simp, h2, h3⟩

theorem ApartIIII.old {w w1 : World} {lo lo' : Nat} {v0 v : Value} {us0 us : List Value} {xss0 xss : List (List Int)} (a : OwII w lo v0 us0 xss0) (h : OwII w1 lo' v us xss) (hlo : w.heap.size ≤ lo') : ApartIIII v0 us0 us :=
  ⟨OwII.sepL a.outer h hlo, fun j hj => OwII.sepL (a.row j hj (by have := a.ul; omega)) h hlo⟩
theorem ApartII.old {w w1 : World} {lo lo' sz n : Nat} {e : TypeId} {v0 u : Value} {us0 cs : List Value} {xss0 : List (List Int)} (a : OwII w lo v0 us0 xss0) (b : Ow w1 lo' e sz u n cs) (hlo : w.heap.size ≤ lo') : ApartII v0 us0 u :=
  ⟨Ow.sep_new a.outer b hlo, fun i hi => Ow.sep_new (a.row i hi (by have := a.ul; omega)) b hlo⟩
theorem trk_bd (gs : List (List Int)) (ts : List Reading) : (trkR gs ts).1.length ≤ 14 ∧ ∀ k, sumLen (trkR gs ts).1 k ≤ 14 := by
  unfold trkR
  by_cases h : readsOk gs ts = true
  · rw [if_pos h]
    have h14 := (readsOk_ok h).2.1
    have hf := flatK_len (riseG h) (fsG_ok gs ts) (fsG_len gs ts)
    refine ⟨?_, fun k => ?_⟩
    · show (trG gs ts).length ≤ 14
      rw [trG_len]; have := fewG_le gs ts; omega
    · show sumLen (trG gs ts) k ≤ 14
      unfold trG sumLen
      have h1 : (((trK (fsG gs ts) ts.length).take k).map List.length).sum ≤ ((trK (fsG gs ts) ts.length).map List.length).sum := by
        conv => rhs; rw [← List.take_append_drop k (trK (fsG gs ts) ts.length), List.map_append, List.sum_append]
        omega
      have h2 : ((trK (fsG gs ts) ts.length).map List.length).sum = (trK (fsG gs ts) ts.length).flatten.length := by rw [List.length_flatten]
      omega
  · rw [if_neg h]
    exact ⟨by simp, fun k => by simp [sumLen]⟩

set_option maxHeartbeats 4000000 in
theorem lawTracksOf_any (v0 : Value) (x0 : List (List Int)) (v1 : Value) (x1 : List Reading) (w : World) (h0 : SlII w v0 x0) (h1 : SlReading w v1 x1)  : Calls Try.prog 13 #[v0, v1] w fun e w' => e = .returned (.bool true) ∧ Below w.heap.size w w' := by
  have hs := fun (u0 : Value) (u1 : Value) (W : World) (k0 : SlII W u0 x0) (k1 : SlReading W u1 x1) => specTracks_any u0 u1 x0 x1 W k0 k1 
  have hi := fun (u0 : Value) (u1 : Value) (W : World) (k0 : SlII W u0 x0) (k1 : SlReading W u1 x1) => implTracks_any u0 u1 x0 x1 W k0 k1 
  obtain ⟨hr1, hr2⟩ := trk_bd x0 x1
  generalize (trkR x0 x1).1 = r0 at hs hi hr1 hr2
  generalize (trkR x0 x1).2 = r1 at hs hi
  have HR2 : Hid (∀ k, k ≤ r0.length → sumLen r0 k ≤ 1099511627776) := Lib.hid (fun k _ => by have := hr2 k; omega)
  have hs0r := sumLen_nonneg r0 r0.length
  have hs1r := hr2 r0.length
  obtain ⟨slr, HSL⟩ : ∃ slr : Int, Hid (sumLen r0 r0.length = slr) := ⟨_, Lib.hid rfl⟩
  rw [HSL.out] at hs0r hs1r
  clear hr2
  have HS := Lib.hid hs; have HI := Lib.hid hi
  clear hs hi
  have HV0 := Lib.hid h0
  have HV1 := Lib.hid h1
  obtain ⟨A1, c1, rfl, hl1, _⟩ := h1.op
  clear h0
  clear h1
  go_enter Try.func13, Try.ntmps13
  go_wp2_with fail
  refine (szInt64SS_any _ x0 _ _ HV0.out (by omega) (by omega)).mono ?_
  rintro e w1 ⟨⟨s0, rfl, hs0⟩, rfl⟩
  by_cases g0 : s0 < 0
  · clear hs0
    go_wp2
    go_ret
    exact ⟨rfl, Below.refl _ _⟩
  have z0 : x0.length ≤ 1048576 := by unfold total at hs0; omega
  have q0 : 0 ≤ s0 ∧ s0 ≤ 1048576 := by unfold total at hs0; omega
  obtain ⟨qa0, qb0⟩ := q0
  have Z0 : Hid (total x0 ≤ 1048576) := Lib.hid (by omega)
  clear hs0
  go_wp2_with fail
  refine (szReadingS_any _ _ _ _ _ hl1 (by omega) (by omega)).mono ?_
  rintro e w1 ⟨rfl, rfl⟩
  generalize hse1 : szOf s0 x1.length = s1
  have hs1 := szOf_or hse1.symm
  clear hse1
  by_cases g1 : s1 < 0
  · clear hs1
    go_wp2
    go_ret
    exact ⟨rfl, Below.refl _ _⟩
  have z1 : x1.length ≤ 1048576 := by omega
  have q1 : 0 ≤ s1 ∧ s1 ≤ 1048576 := by omega
  obtain ⟨qa1, qb1⟩ := q1
  clear hs1
  have hb := Below.refl w.heap.size w
  go_wp2_with fail
  refine (toInt64SS_any _ x0 _ (HV0.out.ex hb) z0).mono ?_
  rintro e w2 ⟨As0, cs0, uss0, rfl, os0, hn⟩
  replace hb := below_next0 hb hn
  clear hn
  go_wp2_with fail
  refine (toReadingS_any _ x1 _ (HV1.out.ex hb) z1).mono ?_
  rintro e w3 ⟨As1, cs1, rfl, os1, hn⟩
  replace os0 := os0.ex hn
  replace hb := below_next0 hb hn
  clear hn
  go_wp2_with fail
  refine (HS.out _ _ _ os0.sl os1.sl).mono ?_
  rintro e w4 ⟨Aow, cow, usow, rfl, ow, hn⟩
  replace os0 := os0.ex hn
  replace os1 := os1.ex hn
  replace hb := below_next0 hb hn
  clear hn
  clear os0
  clear os1
  go_wp2_with fail
  refine (toInt64SS_any _ x0 _ (HV0.out.ex hb) z0).mono ?_
  rintro e w5 ⟨Ax0, cx0, usx0, rfl, ox0, hn⟩
  have ap_ow_ox0 := ApartIIII.old ow ox0 (Nat.le_refl _)
  replace ow := ow.ex hn
  have hbs := hb.size
  replace hb := below_next0 hb hn
  clear hn
  have hlo_ox0 := hbs
  clear hbs
  go_wp2_with fail
  refine (toReadingS_any _ x1 _ (HV1.out.ex hb) z1).mono ?_
  rintro e w6 ⟨Ax1, cx1, rfl, ox1, hn⟩
  have ap_ow_ox1 := ApartII.old ow ox1 (Nat.le_refl _)
  have sp_ox1_ox0 := OwII.sepR ox0 ox1 (Nat.le_refl _)
  replace ow := ow.ex hn
  replace ox0 := ox0.ex hn
  have hbs := hb.size
  replace hb := below_next0 hb hn
  clear hn
  have hlo_ox1 := hbs
  clear hbs
  go_wp2_with fail
  refine (HI.out _ _ _ ox0.sl ox1.sl).mono ?_
  rintro e w7 ⟨Aog, cog, usog, rfl, og, hn⟩
  have ap_ow_og := ApartIIII.old ow og (Nat.le_refl _)
  have ap_og_ox0 := ApartIIII.new ox0 og (Nat.le_refl _)
  have ap_og_ox1 := ApartII.new ox1 og (Nat.le_refl _)
  replace ow := ow.ex hn
  replace ox0 := ox0.ex hn
  replace ox1 := ox1.ex hn
  have hbs := hb.size
  replace hb := below_next0 hb hn
  clear hn
  have hlo_og := hbs
  clear hbs
  go_wp2_with fail
  refine (eqInt64SS_any _ _ r0 r0 _ og.sl ow.sl).mono ?_
  rintro e w8 ⟨rfl, hn⟩
  replace ow := ow.ex hn
  replace ox0 := ox0.ex hn
  replace ox1 := ox1.ex hn
  replace og := og.ex hn
  replace hb := below_next0 hb hn
  clear hn
  simp only [decide_true]
  go_wp2_with fail
  refine (toInt64SS_any _ x0 _ (HV0.out.ex hb) z0).mono ?_
  rintro e w9 ⟨Ay0, cy0, usy0, rfl, oy0, hn⟩
  replace ow := ow.ex hn
  replace ox0 := ox0.ex hn
  replace ox1 := ox1.ex hn
  replace og := og.ex hn
  replace hb := below_next0 hb hn
  clear hn
  go_wp2_with fail
  refine (eqInt64SS_any _ _ x0 x0 _ ox0.sl oy0.sl).mono ?_
  rintro e w10 ⟨rfl, hn⟩
  replace ow := ow.ex hn
  replace ox0 := ox0.ex hn
  replace ox1 := ox1.ex hn
  replace og := og.ex hn
  replace oy0 := oy0.ex hn
  replace hb := below_next0 hb hn
  clear hn
  simp only [decide_true]
  clear oy0
  go_wp2_with fail
  refine (toReadingS_any _ x1 _ (HV1.out.ex hb) z1).mono ?_
  rintro e w11 ⟨Ay1, cy1, rfl, oy1, hn⟩
  replace ow := ow.ex hn
  replace ox0 := ox0.ex hn
  replace ox1 := ox1.ex hn
  replace og := og.ex hn
  replace hb := below_next0 hb hn
  clear hn
  go_wp2_with fail
  refine (eqReadingS_any _ _ x1 x1 _ ox1.sl oy1.sl).mono ?_
  rintro e w12 ⟨rfl, hn⟩
  replace ow := ow.ex hn
  replace ox0 := ox0.ex hn
  replace ox1 := ox1.ex hn
  replace og := og.ex hn
  replace oy1 := oy1.ex hn
  replace hb := below_next0 hb hn
  clear hn
  simp only [decide_true]
  clear oy1
  go_wp2_with fail
  refine (markInt64SS_any _ _ x0 _ _ _ ox0 (by omega) (by omega) (by omega) (sumLen_le Z0.out)).mono ?_
  rintro e w13 ⟨rfl, mk, mb⟩
  replace hb := mb _ _ hb hlo_ox0 hb.size
  replace ow := OwII.keptM ow mk ap_ow_ox0
  replace ox1 := mk _ _ _ _ _ _ ox1 sp_ox1_ox0
  replace og := OwII.keptM og mk ap_og_ox0
  have hsn0 := sumLen_bd Z0.out
  generalize sumLen x0 x0.length = sl0 at hsn0 ⊢
  obtain ⟨hsa0, hsb0⟩ := hsn0
  clear ox0 mk mb
  go_wp2_with fail
  refine (markReading_lawTracksOf _ x1 _ _ _ ox1 (by omega) (by omega)).mono ?_
  rintro e w14 ⟨rfl, mo, hg⟩
  have hbm := below_own hb ox1 hg hb.size hlo_ox1
  replace ow := OwII.keptG ow hg ap_ow_ox1
  replace og := OwII.keptG og hg ap_og_ox1
  replace hb := hbm
  clear hbm hg
  clear ox1 mo
  go_wp2_with fail
  refine (eqInt64SS_any _ _ r0 r0 _ og.sl ow.sl).mono ?_
  rintro e w15 ⟨rfl, hn⟩
  replace ow := ow.ex hn
  replace og := og.ex hn
  replace hb := below_next0 hb hn
  clear hn
  simp only [decide_true]
  go_wp2_with fail
  refine (markOwn_any _ _ r0 1 _ _ og (by omega) (by omega) (by omega) HR2.out).mono ?_
  rintro e w16 ⟨rfl, mo, mk, mb⟩
  rw [HSL.out]
  replace hb := mb _ _ hb hlo_og hb.size
  replace ow := OwII.keptM ow mk ap_ow_og
  replace og := mo
  clear mo mk mb
  go_wp2_with fail
  refine (heldII_any _ r0 1 _ og.sl (by omega) (by omega) (by omega) HR2.out).mono ?_
  rintro e w17 ⟨rfl, rfl⟩
  rw [HSL.out]
  go_wp2_with fail
  refine (toInt64SS_any _ x0 _ (HV0.out.ex hb) z0).mono ?_
  rintro e w18 ⟨Az0, cz0, usz0, rfl, oz0, hn⟩
  replace ow := ow.ex hn
  replace og := og.ex hn
  replace hb := below_next0 hb hn
  clear hn
  go_wp2_with fail
  refine (toReadingS_any _ x1 _ (HV1.out.ex hb) z1).mono ?_
  rintro e w19 ⟨Az1, cz1, rfl, oz1, hn⟩
  replace ow := ow.ex hn
  replace og := og.ex hn
  replace oz0 := oz0.ex hn
  replace hb := below_next0 hb hn
  clear hn
  go_wp2_with fail
  refine (HI.out _ _ _ oz0.sl oz1.sl).mono ?_
  rintro e w20 ⟨Aoh, coh, usoh, rfl, oh, hn⟩
  replace ow := ow.ex hn
  replace og := og.ex hn
  replace oz0 := oz0.ex hn
  replace oz1 := oz1.ex hn
  replace hb := below_next0 hb hn
  clear hn
  clear oz0
  clear oz1
  go_wp2_with fail
  refine (eqInt64SS_any _ _ r0 r0 _ oh.sl ow.sl).mono ?_
  rintro e w21 ⟨rfl, hn⟩
  replace ow := ow.ex hn
  replace og := og.ex hn
  replace oh := oh.ex hn
  replace hb := below_next0 hb hn
  clear hn
  simp only [decide_true]
  go_wp2_with fail
  refine (heldII_any _ r0 1 _ og.sl (by omega) (by omega) (by omega) HR2.out).mono ?_
  rintro e w22 ⟨rfl, rfl⟩
  rw [HSL.out]
  go_wp2
  go_ret
  exact ⟨rfl, hb⟩

set_option maxRecDepth 100000 in
theorem tracksOf_lifted (os : Os) (started : os.Started) (H : Type) (enc : TypeId × Value → H) :
    ReturnsInHanded {} Try.checked os 13 .any (Rows.fnExactTracksOfSpec.pre6 enc Try.checked.prog Try.f13 Rows.fnExactTracksOfRow.domain false) (Rows.fnExactTracksOfSpec.post enc Try.checked.prog Try.f13 false true false false) := by
  refine law_lifted os started H enc (by kernel_rfl) Try.func13
    (ChangeSpec.witness6 (enc := enc) (C := Try.checked) false ⟨#[], #[.slice none 0 0, .slice none 0 0], []⟩ 8 (by kernel_rfl) (by kernel_rfl) (by kernel_rfl) (by kernel_rfl))
    rfl rfl rfl (by rw [Try.params13]; intro t ht; simp only [List.mem_cons, List.not_mem_nil, or_false] at ht; rcases ht with rfl | rfl <;> exact ⟨by kernel_rfl, of_decide_eq_true (by kernel_rfl)⟩)
    (fun ds hl => by match ds, hl with | [d0, d1], _ => exact ⟨rfl, rfl, rfl⟩) ?_
  intro W base args ds p hval hA hlt hsz
  rw [Try.params13] at hA hval hsz
  obtain ⟨v0, vs0, d0, ds0, p0, q0, hargs, rfl, rfl, h0, r0⟩ := trodAll_cons hA
  obtain ⟨v1, vs1, d1, ds1, p1, q1, rfl, rfl, rfl, h1, r1⟩ := trodAll_cons r0
  obtain ⟨rfl, rfl, rfl⟩ := trodAll_nil r1
  obtain rfl : args = #[v0, v1] := by cases args; simp_all
  obtain ⟨x0, hx0⟩ := argII Try.underlying22 Try.underlying49 Try.underlying2 (by kernel_rfl) (by kernel_rfl) (by kernel_rfl) (by kernel_rfl) (hval 0 _ _ rfl rfl) h0 (weight_arg hsz (j := 0) rfl rfl)
  obtain ⟨x1, hx1⟩ := argReading Try.underlying43 Try.underlying39 Try.underlying2 rfl (by kernel_rfl) (by kernel_rfl) (by kernel_rfl) (hval 1 _ _ rfl rfl) h1 (weight_arg hsz (j := 1) rfl rfl)
  exact lawTracksOf_any _ x0 _ x1 W hx0 hx1 

theorem tracksOf_holds : Rows.FnExactTracksOfSaid :=
  OpenClaim.holds_of_wide 13 Try.f13 rfl rfl rfl rfl rfl rfl rfl ⟨rfl, rfl, rfl, rfl, rfl⟩ rfl rfl rfl rfl rfl (by kernel_rfl) Try.func13 (by kernel_rfl)
    (of_decide_eq_true (by kernel_rfl)) (by unfold Func.isWrapper; first | (rw [if_pos (by decide +kernel)]; kernel_rfl) | (rw [if_neg (by decide +kernel)]; exact ⟨rfl, rfl⟩))
    (fun os started H enc _ => tracksOf_lifted os started H enc)
#print axioms tracksOf_holds
end Go.Proofs.Ytlgeddbgbcineaa
