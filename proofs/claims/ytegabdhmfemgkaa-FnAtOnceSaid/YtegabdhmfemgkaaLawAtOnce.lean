/-
FnAtOnce returns true for all arguments: as many carriers as are told may be inside at once, and all may be without a deadlock; the argument stays as it was. No condition beyond the form's own reach.
-/
import Derived.Test.YtegabdhmfemgkaaRows
import Derived.Test.YtegabdhmfemgkaaLaw
import Derived.Test.YtegabdhmfemgkaaDrP
import Derived.Test.YtegabdhmfemgkaaPolRD
namespace Go.Proofs.Ytegabdhmfemgkaa
open Go.ChangeShapes Go.WideShapes Go.ChangeAt Go.RowKit Go.Deep Go.Joins
set_option linter.unusedVariables false

theorem a2Long_any (v u : Value) (bs ms : List Int) (w : World) (hv : SlB w v bs) (hu : SlB w u ms) :
    Calls Try.prog 21 #[v, u] w fun e w' => e = .returned (.bool (decide (3000 < bs.length) || decide (3000 < ms.length))) ∧ w = w' := by
  obtain ⟨A, c, rfl, hl⟩ := hv.op
  obtain ⟨B, d, rfl, hl2⟩ := hu.op
  clear hv hu
  by_cases h : 3000 < bs.length
  · go_enter Try.func21, Try.ntmps21
    go_wp2
    go_ret
    exact ⟨ret_bool (by first | (rw [Bool.eq_iff_iff]; done) | (rw [Bool.eq_iff_iff]; simp; done) | (rw [Bool.eq_iff_iff]; simp; omega)), rfl⟩
  · go_enter Try.func21, Try.ntmps21
    go_wp2
    go_ret
    exact ⟨ret_bool (by first | (rw [Bool.eq_iff_iff]; done) | (rw [Bool.eq_iff_iff]; simp; done) | (rw [Bool.eq_iff_iff]; simp; omega)), rfl⟩
theorem slB_nil (w : World) : SlB w (.slice none 0 0) [] := ⟨⟨none, 0, rfl, by simp, fun h => absurd h (by simp)⟩, by simp⟩
theorem mostF_pos {halls : List Int} {ways : List (List Int)} (ht : travOk halls ways = true) : ∀ n : Nat, 1 ≤ mostF halls ways (n + 1)
  | 0 => by have h9 := mostF_one ht; show 1 ≤ mostF halls ways 1; omega
  | n + 1 => by
    have ih := mostF_pos ht n
    cases hb : (firstDead halls ways ((n + 1 + 1 : Nat) : Int)).isSome with
    | false => rw [mostF_no hb]; omega
    | true => rw [mostF_yes hb]; exact ih
theorem mostF_min {halls : List Int} {ways : List (List Int)} (ht : travOk halls ways = true) (n : Nat) : min 1 (n : Int) ≤ (mostF halls ways n : Int) := by
  cases n with
  | zero => omega
  | succ n => have := mostF_pos ht n; omega
theorem mostF_free {halls : List Int} {ways : List (List Int)} (ht : travOk halls ways = true) (h : (firstDead halls ways 4).isSome = false) : mostF halls ways ways.length = ways.length := by
  obtain ⟨-, -, h4, -⟩ := travOk_at ht
  rw [← firstDead_most h4] at h
  generalize ways.length = n at h
  cases n with
  | zero => rfl
  | succ n => exact mostF_no h

set_option maxHeartbeats 2000000 in
theorem lawAtOnce_any (v0 : Value) (x0 : List Int) (w : World) (h0 : SlB w v0 x0) : Calls Try.prog 4 #[v0] w fun e w' => e = .returned (.bool true) ∧ Below w.heap.size w w' := by
  have HV := Lib.hid h0
  clear h0
  by_cases hl : 3000 < x0.length
  · have HL := Lib.hid (a2Long_any v0 _ x0 [] w HV.out (slB_nil w))
    rw [show (decide (3000 < x0.length) || decide (3000 < ([] : List Int).length)) = true by simp [hl]] at HL
    go_enter Try.func4, Try.ntmps4
    go_wp2_with fail
    refine HL.out.mono ?_
    rintro e w1 ⟨rfl, rfl⟩
    go_wp2
    go_ret
    exact ⟨rfl, Below.refl _ _⟩
  · have HL := Lib.hid (a2Long_any v0 _ x0 [] w HV.out (slB_nil w))
    rw [show (decide (3000 < x0.length) || decide (3000 < ([] : List Int).length)) = false by simp [hl]] at HL
    go_enter Try.func4, Try.ntmps4
    go_wp2_with fail
    refine HL.out.mono ?_
    rintro e w1 ⟨rfl, rfl⟩
    clear HL
    go_wp2_with fail
    refine (a2Halls_any v0 x0 _ HV.out (by omega)).mono ?_
    rintro e w1 ⟨v, u, halls, ways, ht, ⟨A, c, rfl⟩, ⟨B, d, rfl⟩, rfl, hh, hw, hb1⟩
    have HH := Lib.hid hh; have HW := Lib.hid hw; have HB1 := Lib.hid hb1
    have hle := mostF_le halls ways ways.length
    have hmn := mostF_min ht ways.length
    have HFR := Lib.hid (mostF_free ht)
    have h4 := (travOk_at ht).2.2.1
    have HM := Lib.hid (fun W (a : SlI W (.slice A halls.length c) halls) (b : SlII W (.slice B ways.length d) ways) => implMost_any _ _ halls ways W a b)
    have HS := Lib.hid (fun W (a : SlI W (.slice A halls.length c) halls) (b : SlII W (.slice B ways.length d) ways) => specMost_any _ _ halls ways W a b)
    have HF := Lib.hid (fun W (a : SlI W (.slice A halls.length c) halls) (b : SlII W (.slice B ways.length d) ways) => implFree_any _ _ halls ways W a b)
    rw [show moR halls ways = ((mostF halls ways ways.length : Int), 0) by unfold moR; rw [ht]; rfl] at HM HS
    rw [show ifR halls ways = (!(firstDead halls ways 4).isSome, 0) by unfold ifR; rw [ht]; rfl] at HF
    generalize mostF halls ways ways.length = mo at hle hmn HFR HM HS
    generalize (firstDead halls ways 4).isSome = b at HFR HF
    clear hh hw hb1 ht
    go_wp2_with fail
    refine (HM.out _ HH.out HW.out).mono ?_
    rintro e w2 ⟨rfl, hb2⟩
    have HB2 := Lib.hid (below_next0 HB1.out hb2); have HH2 := Lib.hid (HH.out.ex hb2); have HW2 := Lib.hid (HW.out.ex hb2)
    clear hb2 HM
    go_wp2_with fail
    refine (HF.out _ HH2.out HW2.out).mono ?_
    rintro e w3 ⟨rfl, hb3⟩
    have HB3 := Lib.hid (below_next0 HB2.out hb3); have HH3 := Lib.hid (HH2.out.ex hb3); have HW3 := Lib.hid (HW2.out.ex hb3)
    clear hb3 HF
    go_wp2_with fail
    refine (HS.out _ HH3.out HW3.out).mono ?_
    rintro e w4 ⟨rfl, hb4⟩
    have HB4 := Lib.hid (below_next0 HB3.out hb4)
    clear hb4 HS
    have hle2 : (mo : Int) ≤ (ways.length : Int) := by omega
    have hmn2 : decide (min 1 (ways.length : Int) ≤ (mo : Int)) = true := decide_eq_true hmn
    cases b with
    | true =>
      go_wp2
      all_goals go_ret
      all_goals exact ⟨ret_bool (by simp; try omega), HB4.out⟩
    | false =>
      have hfr : mo = ways.length := HFR.out (by first | rfl | trivial)
      subst hfr
      go_wp2
      all_goals go_ret
      all_goals exact ⟨ret_bool (by simp; try omega), HB4.out⟩

set_option maxRecDepth 100000 in
theorem atOnce_lifted (os : Os) (started : os.Started) (H : Type) (enc : TypeId × Value → H) :
    ReturnsInHanded {} Try.checked os 4 .any (Rows.fnAtOnceSpec.pre6 enc Try.checked.prog Try.f4 Rows.fnAtOnceRow.domain false) (Rows.fnAtOnceSpec.post enc Try.checked.prog Try.f4 false true false false) := by
  refine law_lifted os started H enc (by kernel_rfl) Try.func4
    (ChangeSpec.witness6 (enc := enc) (C := Try.checked) false ⟨#[], #[.slice none 0 0], []⟩ 8 (by kernel_rfl) (by kernel_rfl) (by kernel_rfl) (by kernel_rfl))
    rfl rfl rfl (by rw [Try.params4]; intro t ht; simp only [List.mem_cons, List.not_mem_nil, or_false] at ht; subst ht; exact ⟨by kernel_rfl, of_decide_eq_true (by kernel_rfl)⟩)
    (fun ds hl => by match ds, hl with | [d0], _ => exact ⟨rfl, rfl, rfl⟩) ?_
  intro W base args ds p hval hA hlt hsz
  rw [Try.params4] at hA hval hsz
  obtain ⟨v0, vs0, d0, ds0, p0, q0, hargs, rfl, rfl, h0, r0⟩ := trodAll_cons hA
  obtain ⟨rfl, rfl, rfl⟩ := trodAll_nil r0
  obtain rfl : args = #[v0] := by cases args; simp_all
  obtain ⟨x0, hx0⟩ := argB Try.underlying29 Try.underlying5 (by kernel_rfl) (by kernel_rfl) (hval 0 _ _ rfl rfl) h0 (weight_arg hsz (j := 0) rfl rfl)
  exact lawAtOnce_any _ x0 W hx0

theorem atOnce_holds : Rows.FnAtOnceSaid :=
  OpenClaim.holds_of_wide 4 Try.f4 rfl rfl rfl rfl rfl rfl rfl ⟨rfl, rfl, rfl, rfl, rfl⟩ rfl rfl rfl rfl rfl (by kernel_rfl) Try.func4 (by kernel_rfl)
    (of_decide_eq_true (by kernel_rfl)) (by unfold Func.isWrapper; first | (rw [if_pos (by decide +kernel)]; kernel_rfl) | (rw [if_neg (by decide +kernel)]; exact ⟨rfl, rfl⟩))
    (fun os started H enc _ => atOnce_lifted os started H enc)
#print axioms atOnce_holds
end Go.Proofs.Ytegabdhmfemgkaa
