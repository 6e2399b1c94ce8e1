/-
FnBlowerRuns returns true for all arguments: the longest run of a blower lies within its hours and is not longer, and a blower starts no more often than it runs; the argument stays as it was. No condition beyond the form's own reach.
-/
import Derived.Test.YtjleabgoajoegaaRows
import Derived.Test.YtjleabgoajoegaaLaw
import Derived.Test.YtjleabgoajoegaaDrB2
import Derived.Test.YtjleabgoajoegaaBlowG
namespace Go.Proofs.Ytjleabgoajoegaa
open Go.ChangeShapes Go.WideShapes Go.ChangeAt Go.RowKit Go.Deep Go.Joins
set_option linter.unusedVariables false

theorem f6big_any (v : Value) (bs : List Int) (w : World) (hv : SlB w v bs) : Calls Try.prog 43 #[v] w fun e w' => e = .returned (.bool (decide (4096 < bs.length))) ∧ w = w' := by
  obtain ⟨A, c, rfl, hl⟩ := hv.op
  clear hv
  go_enter Try.func43, Try.ntmps43
  go_wp2
  go_ret
  exact ⟨ret_bool (by rw [Bool.eq_iff_iff]; simp; omega), rfl⟩

/-- what the runs tell -/
def RunK (ss : List Int) (kb a b c s hr o : Int) : Prop :=
  (o ≠ 0 ∧ c = o) ∨ (o = 0 ∧ s = 0 ∧ hr = 0 ∧ c = 3) ∨
  (o = 0 ∧ c = 0 ∧ 1 ≤ s ∧ s ≤ hr ∧ 0 ≤ a ∧ 1 ≤ b ∧ a + b ≤ (ss.length : Int) ∧ b ≤ hr ∧ ss.length ≤ 24 ∧ (0 ≤ kb ∧ kb ≤ 3) ∧ (∀ x ∈ ss, 0 ≤ x ∧ x ≤ 15) ∧ ∀ i : Nat, a ≤ (i : Int) → (i : Int) < a + b → hasB (ss.getD i 0) kb = true)
theorem runK_of (ts : List Blower) (ss : List Int) (kb : Int) : RunK ss kb (longR ts ss kb).1 (longR ts ss kb).2.1 (longR ts ss kb).2.2 (startsR ts ss kb).1 (hoursR ts ss kb).1 (codeO ts ss kb) := by
  by_cases h0 : codeO ts ss kb = 0
  · have hl : longR ts ss kb = if runsR ts ss kb = [] then (0, 0, 3) else ((bestR (runsR ts ss kb)).1, (bestR (runsR ts ss kb)).2, 0) := by unfold longR; rw [if_pos h0]
    have hr : runsR ts ss kb = runsU (onB ss kb) ss.length := by unfold runsR; rw [if_pos h0]
    by_cases he : runsR ts ss kb = []
    · refine .inr (.inl ⟨h0, ?_, ?_, ?_⟩)
      · show ((runsR ts ss kb).length : Int) = 0; rw [he]; rfl
      · show hoursL (runsR ts ss kb) = 0; rw [he]; rfl
      · rw [hl, if_pos he]
    · have h1 : ∀ r ∈ runsR ts ss kb, 1 ≤ r.2 := fun r hq => by rw [hr] at hq; exact ((runsU_inv _ _).1 r hq).2.1
      have hm := bestR_mem h1 he
      obtain ⟨h2, h3⟩ := hours_len _ h1
      have h4 := h3 _ hm
      have hm2 := hm
      rw [hr] at hm2
      have h5 := (runsU_inv _ _).1 _ hm2
      have h6 := runsU_all _ _ _ hm2
      obtain ⟨q1, q2, q3⟩ := codeO_ok h0
      rw [hl, if_neg he]
      refine .inr (.inr ⟨h0, rfl, ?_, h2, ?_, h1 _ hm, ?_, h4, q1, q3, q2, ?_⟩)
      · have : 0 < (runsR ts ss kb).length := List.length_pos_iff.2 he
        show 1 ≤ ((runsR ts ss kb).length : Int); omega
      · rw [hr]; exact h5.1
      · rw [hr]; exact h5.2.2
      · rw [hr]; exact h6
  · refine .inl ⟨h0, ?_⟩
    unfold longR; rw [if_neg h0]

set_option maxRecDepth 100000 in
set_option maxHeartbeats 4000000 in
theorem lawBlowerRuns_any (v0 : Value) (x0 : List Int) (w : World) (h0 : SlB w v0 x0) : Calls Try.prog 13 #[v0] w fun e w' => e = .returned (.bool true) ∧ Below w.heap.size w w' := by
  have HV := Lib.hid h0
  have HBG := Lib.hid (f6big_any v0 x0 w h0)
  clear h0
  by_cases hl : 4096 < x0.length
  · rw [decide_eq_true hl] at HBG
    go_enter Try.func13, Try.ntmps13
    go_wp2_with fail
    refine HBG.out.mono ?_
    rintro e w1 ⟨rfl, rfl⟩
    go_wp2
    go_ret
    exact ⟨rfl, Below.refl _ _⟩
  · rw [decide_eq_false hl] at HBG
    go_enter Try.func13, Try.ntmps13
    go_wp2_with fail
    refine HBG.out.mono ?_
    rintro e w1 ⟨rfl, rfl⟩
    clear HBG
    go_wp2_with fail
    refine (drawLong_any v0 x0 _ HV.out (by omega)).mono ?_
    rintro e w1 ⟨v, u, ts, ss, kb, ⟨hk0, hk1⟩, ⟨A, c, rfl⟩, ⟨B, d, rfl⟩, rfl, hv, hu, hb1⟩
    have HT := Lib.hid hv; have HU := Lib.hid hu; have HB1 := Lib.hid hb1
    have HRK := Lib.hid (runK_of ts ss kb)
    have hkb : -9223372036854775808 ≤ kb ∧ kb ≤ 9223372036854775807 := by omega
    have HIL := Lib.hid (fun W (a : SlBlower W (.slice A ts.length c) ts) (b : SlI W (.slice B ss.length d) ss) => implLong_any _ _ ts ss kb W a b hkb)
    have HSL := Lib.hid (fun W (a : SlBlower W (.slice A ts.length c) ts) (b : SlI W (.slice B ss.length d) ss) => specLong_any _ _ ts ss kb W a b hkb)
    have HIS := Lib.hid (fun W (a : SlBlower W (.slice A ts.length c) ts) (b : SlI W (.slice B ss.length d) ss) => implStarts_any _ _ ts ss kb W a b hkb)
    have HSS := Lib.hid (fun W (a : SlBlower W (.slice A ts.length c) ts) (b : SlI W (.slice B ss.length d) ss) => specStarts_any _ _ ts ss kb W a b hkb)
    have HIH := Lib.hid (fun W (a : SlBlower W (.slice A ts.length c) ts) (b : SlI W (.slice B ss.length d) ss) => implHours_any _ _ ts ss kb W a b hkb)
    have HSH := Lib.hid (fun W (a : SlBlower W (.slice A ts.length c) ts) (b : SlI W (.slice B ss.length d) ss) => specHours_any _ _ ts ss kb W a b hkb)
    rw [show (startsR ts ss kb).2 = codeO ts ss kb from rfl] at HIS HSS
    rw [show (hoursR ts ss kb).2 = codeO ts ss kb from rfl] at HIH HSH
    generalize (longR ts ss kb).1 = qa at HRK HIL HSL
    generalize (longR ts ss kb).2.1 = qb at HRK HIL HSL
    generalize (longR ts ss kb).2.2 = qc at HRK HIL HSL
    generalize (startsR ts ss kb).1 = qs at HRK HIS HSS
    generalize (hoursR ts ss kb).1 = qh at HRK HIH HSH
    generalize codeO ts ss kb = qo at HRK HIS HSS HIH HSH
    clear hv hu hb1
    go_wp2_with fail
    refine (HIL.out _ HT.out HU.out).mono ?_
    rintro e w2 ⟨rfl, hb2⟩
    have HB2 := Lib.hid (below_next0 HB1.out hb2); have HT2 := Lib.hid (HT.out.ex hb2); have HU2 := Lib.hid (HU.out.ex hb2)
    clear hb2 HIL
    go_wp2_with fail
    refine (HSL.out _ HT2.out HU2.out).mono ?_
    rintro e w3 ⟨rfl, hb3⟩
    have HB3 := Lib.hid (below_next0 HB2.out hb3); have HT3 := Lib.hid (HT2.out.ex hb3); have HU3 := Lib.hid (HU2.out.ex hb3)
    clear hb3 HSL
    go_wp2_with fail
    refine (HIS.out _ HT3.out HU3.out).mono ?_
    rintro e w4 ⟨rfl, hb4⟩
    have HB4 := Lib.hid (below_next0 HB3.out hb4); have HT4 := Lib.hid (HT3.out.ex hb4); have HU4 := Lib.hid (HU3.out.ex hb4)
    clear hb4 HIS
    go_wp2_with fail
    refine (HSS.out _ HT4.out HU4.out).mono ?_
    rintro e w5 ⟨rfl, hb5⟩
    have HB5 := Lib.hid (below_next0 HB4.out hb5); have HT5 := Lib.hid (HT4.out.ex hb5); have HU5 := Lib.hid (HU4.out.ex hb5)
    clear hb5 HSS
    go_wp2_with fail
    refine (HIH.out _ HT5.out HU5.out).mono ?_
    rintro e w6 ⟨rfl, hb6⟩
    have HB6 := Lib.hid (below_next0 HB5.out hb6); have HT6 := Lib.hid (HT5.out.ex hb6); have HU6 := Lib.hid (HU5.out.ex hb6)
    clear hb6 HIH
    go_wp2_with fail
    refine (HSH.out _ HT6.out HU6.out).mono ?_
    rintro e w7 ⟨rfl, hb7⟩
    have HB7 := Lib.hid (below_next0 HB6.out hb7); have HU7 := Lib.hid (HU6.out.ex hb7)
    clear hb7 HSH
    rcases HRK.out with ⟨ho, hc⟩ | ⟨ho, hs, hh, hc⟩ | ⟨ho, hc, hs, hh, ha, hb, hab, hbh, hl24, ⟨hkb0, hkb3⟩, hall, hrun⟩
    · subst hc
      have ho1 : (qc == 0) = false := by simpa using ho
      have ho2 : (qc != 0) = true := by simpa using ho
      clear ho
      go_wp2
      go_ret
      exact ⟨rfl, HB7.out⟩
    · subst ho hs hh hc
      go_wp2
      go_ret
      exact ⟨rfl, HB7.out⟩
    · subst ho hc
      have hs0 : (qs == 0) = false := by simp; omega
      have hh0 : (qh == 0) = false := by simp; omega
      obtain ⟨an, rfl⟩ := Int.eq_ofNat_of_zero_le ha
      obtain ⟨bn, rfl⟩ := Int.eq_ofNat_of_zero_le (show 0 ≤ qb by omega)
      obtain ⟨kn, rfl⟩ := Int.eq_ofNat_of_zero_le hkb0
      obtain ⟨B', d', hv9, _, hcl⟩ := HU7.out.op
      injection hv9 with hv9 _ hv8
      subst hv9 hv8
      have HCL := Lib.hid hcl; have HALL := Lib.hid hall; have HRUN := Lib.hid hrun
      clear hcl hall hrun HRK
      go_wp2
      go_loopw [20] (fun v20 wr => ∃ k : Nat, v20 = .int .i64 k ∧ an ≤ k ∧ k ≤ an + bn ∧ w7 = wr) (fun v20 _ => an + bn - (intOf v20).toNat)
      case atStart => exact ⟨an, rfl, Nat.le_refl _, by omega, rfl⟩
      case round =>
        obtain ⟨k, rfl, hk1, hk2, rfl⟩ := hrel
        by_cases hlt : k < an + bn
        · have hki : (k : Int) < (an : Int) + (bn : Int) := by omega
          have hks : k < ss.length := by omega
          have hksi : (k : Int) < (ss.length : Int) := by omega
          obtain ⟨b9, o9, rfl, hbs, hcc⟩ := HCL.out k hks
          have hcell := hcc k hks
          have HBT : Hid (hasB ss[k] (kn : Int) = true) := Lib.hid (by
            have h9 := HRUN.out k (by omega) (by omega)
            simpa [List.getD_eq_getElem?_getD, hks] using h9)
          obtain ⟨hx0, hx1⟩ := HALL.out _ (List.getElem_mem hks)
          generalize ss[k] = x at hcell HBT hx0 hx1
          obtain ⟨xn, rfl⟩ := Int.eq_ofNat_of_zero_le hx0
          have hbit : (bits .and .i64 ((xn : Int) / 2 ^ kn) 1 != 1) = false := by
            have h9 := hasB_bits xn (by omega) kn (by omega)
            have h8 : Nat.testBit xn kn = true := by simpa [hasB] using HBT.out
            rw [h8] at h9
            simpa using h9
          clear hcc
          go_wp2
          go_roundw
          case rel => exact ⟨k + 1, by go_num, by omega, by omega, by first | rfl | trivial⟩
          case measure => simp [intOf]; omega
        · have hki : ¬ ((k : Int) < (an : Int) + (bn : Int)) := by omega
          go_wp2
          go_ret
          exact ⟨rfl, HB7.out⟩

set_option maxRecDepth 100000 in
theorem blowerRuns_lifted (os : Os) (started : os.Started) (H : Type) (enc : TypeId × Value → H) :
    ReturnsInHanded {} Try.checked os 13 .any (Rows.fnBlowerRunsSpec.pre6 enc Try.checked.prog Try.f13 Rows.fnBlowerRunsRow.domain false) (Rows.fnBlowerRunsSpec.post enc Try.checked.prog Try.f13 false true false false) := by
  refine law_lifted os started H enc (by kernel_rfl) Try.func13
    (ChangeSpec.witness6 (enc := enc) (C := Try.checked) false ⟨#[], #[.slice none 0 0], []⟩ 8 (by kernel_rfl) (by kernel_rfl) (by kernel_rfl) (by kernel_rfl))
    rfl rfl rfl (by rw [Try.params13]; intro t ht; simp only [List.mem_cons, List.not_mem_nil, or_false] at ht; subst ht; exact ⟨by kernel_rfl, of_decide_eq_true (by kernel_rfl)⟩)
    (fun ds hl => by match ds, hl with | [d0], _ => exact ⟨rfl, rfl, rfl⟩) ?_
  intro W base args ds p hval hA hlt hsz
  rw [Try.params13] at hA hval hsz
  obtain ⟨v0, vs0, d0, ds0, p0, q0, hargs, rfl, rfl, h0, r0⟩ := trodAll_cons hA
  obtain ⟨rfl, rfl, rfl⟩ := trodAll_nil r0
  obtain rfl : args = #[v0] := by cases args; simp_all
  obtain ⟨x0, hx0⟩ := argB Try.underlying49 Try.underlying5 (by kernel_rfl) (by kernel_rfl) (hval 0 _ _ rfl rfl) h0 (weight_arg hsz (j := 0) rfl rfl)
  exact lawBlowerRuns_any _ x0 W hx0

theorem blowerRuns_holds : Rows.FnBlowerRunsSaid :=
  OpenClaim.holds_of_wide 13 Try.f13 rfl rfl rfl rfl rfl rfl rfl ⟨rfl, rfl, rfl, rfl, rfl⟩ rfl rfl rfl rfl rfl (by kernel_rfl) Try.func13 (by kernel_rfl)
    (of_decide_eq_true (by kernel_rfl)) (by unfold Func.isWrapper; first | (rw [if_pos (by decide +kernel)]; kernel_rfl) | (rw [if_neg (by decide +kernel)]; exact ⟨rfl, rfl⟩))
    (fun os started H enc _ => blowerRuns_lifted os started H enc)
#print axioms blowerRuns_holds
end Go.Proofs.Ytjleabgoajoegaa
