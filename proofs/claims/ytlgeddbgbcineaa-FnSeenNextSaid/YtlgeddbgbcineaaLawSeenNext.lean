/-
FnSeenNext returns true for all arguments: readings within the told ticks may follow, and those outside may not; the arguments stay as they were. No condition beyond the form's own reach.
-/
import Derived.Test.YtlgeddbgbcineaaRows
import Derived.Test.YtlgeddbgbcineaaLaw
import Derived.Test.YtlgeddbgbcineaaSeenA
namespace Go.Proofs.Ytlgeddbgbcineaa
open Go.ChangeShapes Go.WideShapes Go.ChangeAt Go.RowKit Go.Deep Go.Joins
set_option linter.unusedVariables false

set_option maxRecDepth 100000 in
set_option maxHeartbeats 8000000 in
theorem lawSeenNext_any (v0 v1 : Value) (x0 x1 : List Int) (w : World) (h0 : SlB w v0 x0) (h1 : SlB w v1 x1) : Calls Try.prog 4 #[v0, v1] w fun e w' => e = .returned (.bool true) ∧ Below w.heap.size w w' := by
  have HV := Lib.hid h0; have HM := Lib.hid h1
  have HL := Lib.hid (a2Long_any v0 v1 x0 x1 w h0 h1)
  clear h0 h1
  by_cases hl : 3000 < x0.length ∨ 3000 < x1.length
  · rw [show (decide (3000 < x0.length) || decide (3000 < x1.length)) = true by simpa using hl] at HL
    clear hl
    go_enter Try.func4, Try.ntmps4
    go_wp2_with fail
    refine HL.out.mono ?_
    rintro e w1 ⟨rfl, rfl⟩
    go_wp2
    go_ret
    exact ⟨rfl, Below.refl _ _⟩
  · rw [show (decide (3000 < x0.length) || decide (3000 < x1.length)) = false by simp; omega] at HL
    have hlx : x0.length ≤ 1048576 := by omega
    clear hl
    go_enter Try.func4, Try.ntmps4
    go_wp2_with fail
    refine HL.out.mono ?_
    rintro e w1 ⟨rfl, rfl⟩
    clear HL
    go_wp2_with fail
    refine (specRead_any v0 x0 _ HV.out hlx).mono ?_
    rintro e w1 ⟨A, B, c, d, gs, ts, hgok, hl12, hfit, rfl, hg, ht, hb1⟩
    have HG := Lib.hid hg; have HT := Lib.hid ht; have HB1 := Lib.hid hb1; have HGOK := Lib.hid hgok; have HFIT := Lib.hid hfit; have HM1 := Lib.hid (HM.out.ex hb1)
    clear hg ht hb1 hgok hfit HV HM
    obtain ⟨A', c', hv9, hTl, hTc⟩ := HT.out.op
    injection hv9 with hv9 _ hv8
    subst hv9 hv8
    have HTC := Lib.hid hTc
    clear hTc
    have hGl : gs.length ≤ 17592186044416 := by obtain ⟨_, _, h9, h8, _⟩ := HG.out.op; exact h8
    go_wp2
    go_loopw [7] (fun v7 wr => ∃ k : Nat, v7 = .int .i64 k ∧ k ≤ ts.length ∧ Hid (Below w1.heap.size w1 wr)) (fun v7 _ => ts.length - (intOf v7).toNat)
    case atStart => exact ⟨0, rfl, Nat.zero_le _, Lib.hid (Below.refl _ _)⟩
    case round =>
      obtain ⟨k, rfl, hk, HR⟩ := hrel
      by_cases hlt : k < ts.length
      · have hki : (k : Int) < (ts.length : Int) := by omega
        obtain ⟨b, o, rfl, hbs, hc0, hc1⟩ := HTC.out k hlt
        have HCE : Hid (∀ W, Below wr.heap.size wr W → W.cell? ⟨b, o + k * 2, none⟩ = some (.int .i64 ts[k].sensor) ∧ W.cell? ⟨b, o + k * 2 + 1, none⟩ = some (.int .i64 ts[k].tick)) := Lib.hid fun W hW =>
          ⟨((below_next0 HR.out hW).cell (p := ⟨b, o + k * 2, none⟩) hbs).trans hc0, ((below_next0 HR.out hW).cell (p := ⟨b, o + k * 2 + 1, none⟩) hbs).trans hc1⟩
        have HGR := Lib.hid (HG.out.ex HR.out); have HMR := Lib.hid (HM1.out.ex HR.out)
        obtain ⟨hfk, htk⟩ := HFIT.out _ (List.getElem_mem hlt)
        have htk0 := fits_tick hfk
        have hsn := (Reading.fitsd hfk).1
        have HNX := Lib.hid (fun W (a : SlII W (.slice A gs.length c) gs) => implNext_any _ gs ts[k].sensor ts[k].tick W a)
        have HMY := Lib.hid (fun W (a : SlII W (.slice A gs.length c) gs) (y0 y1 : Int) => implMay_any _ gs ts[k].sensor ts[k].tick y0 y1 W a)
        have hre : (⟨ts[k].sensor, ts[k].tick⟩ : Reading) = ts[k] := rfl
        rw [hre] at HNX
        simp only [hre] at HMY
        have HTELL := Lib.hid (fun hs => next_tells HGOK.out hfk htk hs)
        have HLAST := Lib.hid (fun hs => next_last HGOK.out hfk hs)
        generalize ts[k] = r at HCE HNX HMY HTELL HLAST htk htk0 hsn
        obtain ⟨s0, t0⟩ := r
        dsimp only at HCE HNX HMY HTELL HLAST htk htk0 hsn
        obtain ⟨hx0, hx1⟩ := HCE.out wr (Below.refl _ _)
        clear hc0 hc1 hre hfk
        by_cases hs : s0 = (gs.length : Int)
        · rw [HLAST.out hs] at HNX
          clear HTELL HLAST HMY HMR
          subst hs
          go_wp2_with fail
          refine (HNX.out _ HGR.out).mono ?_
          rintro e w2 ⟨rfl, hb2⟩
          obtain ⟨hy0, hy1⟩ := HCE.out w2 hb2
          have HR2 := Lib.hid (below_next0 HR.out hb2)
          clear hb2 HNX hx0 hx1 HR HGR HCE
          go_wp2
          go_roundw
          case rel => exact ⟨k + 1, by go_num, by omega, HR2⟩
          case measure => simp [intOf]; omega
        · obtain ⟨lo, hi, hlo, hlh, hhi, hns, hmf⟩ := HTELL.out hs
          rw [hns] at HNX
          have HMF := Lib.hid hmf
          have hsb : (s0 == (gs.length : Int)) = false := by simpa using hs
          clear HTELL HLAST hns hmf hs
          go_wp2_with fail
          refine (HNX.out _ HGR.out).mono ?_
          rintro e w2 ⟨rfl, hb2⟩
          obtain ⟨hy0, hy1⟩ := HCE.out w2 hb2
          have HB2 := Lib.hid hb2
          have HG2 := Lib.hid (HGR.out.ex hb2); have HM2 := Lib.hid (HMR.out.ex hb2)
          have hq1 : ¬ (t0 + hi < t0 + lo) := by omega
          have hq2 : ¬ (t0 + lo < t0) := by omega
          clear hb2 HNX hx0 hx1 HGR HMR
          go_wp2
          have HM3 := Lib.hid (HM2.out.ex (Below.refl w2.heap.size w2).drew)
          have hwx : Hid (∀ x : Int, 0 ≤ x → x < 20 → IntKind.i64.wrap (t0 + x) = t0 + x) := Lib.hid fun x h1 h2 => IntWalk.i64_in _ (by omega)
          go_region_held3 (fun w' => w'.cell? ⟨b, o + k * 2 + 1, none⟩ = some (.int .i64 t0)) (first | exact hy1 | go_keep) (first | (go_at_call 22; refine (a2At_any v1 x1 k 20 _ HM3.out (by omega) (by omega) (by omega)).mono ?_; rintro eA wA ⟨x, hxa, hxb, rfl, rfl⟩; have hwx2 := hwx.out x hxa hxb))
          go_wp2
          obtain ⟨hm1, hm2⟩ := HMF.out x hxa hxb
          have HMA := Lib.hid (fun W a => HMY.out W a (s0 + 1) (t0 + x)); have HMB := Lib.hid (fun W a => HMY.out W a s0 (t0 + x))
          rw [hm1] at HMA
          rw [hm2] at HMB
          have hws : IntKind.i64.wrap (s0 + 1) = s0 + 1 := IntWalk.i64_in _ (by omega)
          clear hm1 hm2 HMF HMY hwx hwx2 HM3
          rcases (show (lo ≤ x ∧ x ≤ hi ∧ inB x lo hi = true) ∨ (¬ lo ≤ x ∧ inB x lo hi = false) ∨ (lo ≤ x ∧ ¬ x ≤ hi ∧ inB x lo hi = false) by
            by_cases a1 : lo ≤ x
            · by_cases a2 : x ≤ hi
              · exact .inl ⟨a1, a2, inB_iff.2 ⟨a1, a2⟩⟩
              · exact .inr (.inr ⟨a1, a2, by rw [Bool.eq_false_iff]; intro h; exact a2 (inB_iff.1 h).2⟩)
            · exact .inr (.inl ⟨a1, by rw [Bool.eq_false_iff]; intro h; exact a1 (inB_iff.1 h).1⟩)) with ⟨a1, a2, a3⟩ | ⟨a1, a3⟩ | ⟨a1, a2, a3⟩
          · have a4 : t0 + lo ≤ t0 + x := by omega
            have a5 : t0 + x ≤ t0 + hi := by omega
            rw [a3] at HMA
            clear a3 hy0 hy1
            have HBE : Hid (Below wr.heap.size wr w2.drew) := Lib.hid (below_next0 HB2.out (Below.refl w2.heap.size w2).drew)
            have HGE := Lib.hid (HG2.out.ex (Below.refl w2.heap.size w2).drew)
            have HBD1 : Hid (Below wr.heap.size wr w2.drew.drew) := Lib.hid (below_next0 HBE.out (Below.refl w2.drew.heap.size w2.drew).drew)
            have HGD1 := Lib.hid (HGE.out.ex (Below.refl w2.drew.heap.size w2.drew).drew)
            have HCD1 := Lib.hid (HCE.out _ HBD1.out)
            go_region_held3 (fun w' => w'.cell? ⟨b, o + k * 2, none⟩ = some (.int .i64 s0) ∧ w'.cell? ⟨b, o + k * 2 + 1, none⟩ = some (.int .i64 t0)) (first | (exact HCD1.out) | (exact HCB1.out) | go_keep) (first | (go_at_call 23; refine (HMA.out _ HGD1.out).mono ?_; rintro eB1 wB1 ⟨rfl, hbB1⟩; have HBB1 : Hid (Below wr.heap.size wr wB1) := Lib.hid (below_next0 HBD1.out hbB1); have HGB1 := Lib.hid (HGD1.out.ex hbB1); have HCB1 := Lib.hid (HCE.out wB1 HBB1.out)))
            clear hbB1 HBD1 HGD1 HCD1 HCB1
            go_wp2
            have HBD2 : Hid (Below wr.heap.size wr wB1.drew) := Lib.hid (below_next0 HBB1.out (Below.refl wB1.heap.size wB1).drew)
            have HGD2 := Lib.hid (HGB1.out.ex (Below.refl wB1.heap.size wB1).drew)
            have HCD2 := Lib.hid (HCE.out _ HBD2.out)
            go_region_held3 (fun w' => w'.cell? ⟨b, o + k * 2, none⟩ = some (.int .i64 s0) ∧ w'.cell? ⟨b, o + k * 2 + 1, none⟩ = some (.int .i64 t0)) (first | (exact HCD2.out) | (exact HCB2.out) | go_keep) (first | (go_at_call 23; refine (HMB.out _ HGD2.out).mono ?_; rintro eB2 wB2 ⟨rfl, hbB2⟩; have HBB2 : Hid (Below wr.heap.size wr wB2) := Lib.hid (below_next0 HBD2.out hbB2); have HGB2 := Lib.hid (HGD2.out.ex hbB2); have HCB2 := Lib.hid (HCE.out wB2 HBB2.out)))
            clear hbB2 HBD2 HGD2 HCD2 HCB2
            go_wp2
            go_roundw
            case rel => exact ⟨k + 1, by go_num, by omega, Lib.hid (below_next0 HR.out HBB2.out)⟩
            case measure => simp [intOf]; omega
          · have a4 : ¬ (t0 + lo ≤ t0 + x) := by omega
            rw [a3] at HMA
            clear a3 hy0 hy1
            have HBE : Hid (Below wr.heap.size wr w2.drew) := Lib.hid (below_next0 HB2.out (Below.refl w2.heap.size w2).drew)
            have HGE := Lib.hid (HG2.out.ex (Below.refl w2.heap.size w2).drew)
            have HBD1 : Hid (Below wr.heap.size wr w2.drew.drew) := Lib.hid (below_next0 HBE.out (Below.refl w2.drew.heap.size w2.drew).drew)
            have HGD1 := Lib.hid (HGE.out.ex (Below.refl w2.drew.heap.size w2.drew).drew)
            have HCD1 := Lib.hid (HCE.out _ HBD1.out)
            go_region_held3 (fun w' => w'.cell? ⟨b, o + k * 2, none⟩ = some (.int .i64 s0) ∧ w'.cell? ⟨b, o + k * 2 + 1, none⟩ = some (.int .i64 t0)) (first | (exact HCD1.out) | (exact HCB1.out) | go_keep) (first | (go_at_call 23; refine (HMA.out _ HGD1.out).mono ?_; rintro eB1 wB1 ⟨rfl, hbB1⟩; have HBB1 : Hid (Below wr.heap.size wr wB1) := Lib.hid (below_next0 HBD1.out hbB1); have HGB1 := Lib.hid (HGD1.out.ex hbB1); have HCB1 := Lib.hid (HCE.out wB1 HBB1.out)))
            clear hbB1 HBD1 HGD1 HCD1 HCB1
            go_wp2
            have HBD2 : Hid (Below wr.heap.size wr wB1.drew) := Lib.hid (below_next0 HBB1.out (Below.refl wB1.heap.size wB1).drew)
            have HGD2 := Lib.hid (HGB1.out.ex (Below.refl wB1.heap.size wB1).drew)
            have HCD2 := Lib.hid (HCE.out _ HBD2.out)
            go_region_held3 (fun w' => w'.cell? ⟨b, o + k * 2, none⟩ = some (.int .i64 s0) ∧ w'.cell? ⟨b, o + k * 2 + 1, none⟩ = some (.int .i64 t0)) (first | (exact HCD2.out) | (exact HCB2.out) | go_keep) (first | (go_at_call 23; refine (HMB.out _ HGD2.out).mono ?_; rintro eB2 wB2 ⟨rfl, hbB2⟩; have HBB2 : Hid (Below wr.heap.size wr wB2) := Lib.hid (below_next0 HBD2.out hbB2); have HGB2 := Lib.hid (HGD2.out.ex hbB2); have HCB2 := Lib.hid (HCE.out wB2 HBB2.out)))
            clear hbB2 HBD2 HGD2 HCD2 HCB2
            go_wp2
            go_roundw
            case rel => exact ⟨k + 1, by go_num, by omega, Lib.hid (below_next0 HR.out HBB2.out)⟩
            case measure => simp [intOf]; omega
          · have a4 : t0 + lo ≤ t0 + x := by omega
            have a5 : ¬ (t0 + x ≤ t0 + hi) := by omega
            rw [a3] at HMA
            clear a3 hy0 hy1
            have HBE : Hid (Below wr.heap.size wr w2.drew) := Lib.hid (below_next0 HB2.out (Below.refl w2.heap.size w2).drew)
            have HGE := Lib.hid (HG2.out.ex (Below.refl w2.heap.size w2).drew)
            have HBD1 : Hid (Below wr.heap.size wr w2.drew.drew) := Lib.hid (below_next0 HBE.out (Below.refl w2.drew.heap.size w2.drew).drew)
            have HGD1 := Lib.hid (HGE.out.ex (Below.refl w2.drew.heap.size w2.drew).drew)
            have HCD1 := Lib.hid (HCE.out _ HBD1.out)
            go_region_held3 (fun w' => w'.cell? ⟨b, o + k * 2, none⟩ = some (.int .i64 s0) ∧ w'.cell? ⟨b, o + k * 2 + 1, none⟩ = some (.int .i64 t0)) (first | (exact HCD1.out) | (exact HCB1.out) | go_keep) (first | (go_at_call 23; refine (HMA.out _ HGD1.out).mono ?_; rintro eB1 wB1 ⟨rfl, hbB1⟩; have HBB1 : Hid (Below wr.heap.size wr wB1) := Lib.hid (below_next0 HBD1.out hbB1); have HGB1 := Lib.hid (HGD1.out.ex hbB1); have HCB1 := Lib.hid (HCE.out wB1 HBB1.out)))
            clear hbB1 HBD1 HGD1 HCD1 HCB1
            go_wp2
            have HBD2 : Hid (Below wr.heap.size wr wB1.drew) := Lib.hid (below_next0 HBB1.out (Below.refl wB1.heap.size wB1).drew)
            have HGD2 := Lib.hid (HGB1.out.ex (Below.refl wB1.heap.size wB1).drew)
            have HCD2 := Lib.hid (HCE.out _ HBD2.out)
            go_region_held3 (fun w' => w'.cell? ⟨b, o + k * 2, none⟩ = some (.int .i64 s0) ∧ w'.cell? ⟨b, o + k * 2 + 1, none⟩ = some (.int .i64 t0)) (first | (exact HCD2.out) | (exact HCB2.out) | go_keep) (first | (go_at_call 23; refine (HMB.out _ HGD2.out).mono ?_; rintro eB2 wB2 ⟨rfl, hbB2⟩; have HBB2 : Hid (Below wr.heap.size wr wB2) := Lib.hid (below_next0 HBD2.out hbB2); have HGB2 := Lib.hid (HGD2.out.ex hbB2); have HCB2 := Lib.hid (HCE.out wB2 HBB2.out)))
            clear hbB2 HBD2 HGD2 HCD2 HCB2
            go_wp2
            go_roundw
            case rel => exact ⟨k + 1, by go_num, by omega, Lib.hid (below_next0 HR.out HBB2.out)⟩
            case measure => simp [intOf]; omega
      · have hki : ¬ ((k : Int) < (ts.length : Int)) := by omega
        go_wp2
        go_ret
        exact ⟨rfl, below_next0 HB1.out HR.out⟩

set_option maxRecDepth 100000 in
theorem seenNext_lifted (os : Os) (started : os.Started) (H : Type) (enc : TypeId × Value → H) :
    ReturnsInHanded {} Try.checked os 4 .any (Rows.fnSeenNextSpec.pre6 enc Try.checked.prog Try.f4 Rows.fnSeenNextRow.domain false) (Rows.fnSeenNextSpec.post enc Try.checked.prog Try.f4 false true false false) := by
  refine law_lifted os started H enc (by kernel_rfl) Try.func4
    (ChangeSpec.witness6 (enc := enc) (C := Try.checked) false ⟨#[], #[.slice none 0 0, .slice none 0 0], []⟩ 8 (by kernel_rfl) (by kernel_rfl) (by kernel_rfl) (by kernel_rfl))
    rfl rfl rfl (by rw [Try.params4]; intro t ht; simp only [List.mem_cons, List.not_mem_nil, or_false] at ht; rcases ht with rfl | rfl <;> exact ⟨by kernel_rfl, of_decide_eq_true (by kernel_rfl)⟩)
    (fun ds hl => by match ds, hl with | [d0, d1], _ => exact ⟨rfl, rfl, rfl⟩) ?_
  intro W base args ds p hval hA hlt hsz
  rw [Try.params4] at hA hval hsz
  obtain ⟨v0, vs0, d0, ds0, p0, q0, hargs, rfl, rfl, h0, r0⟩ := trodAll_cons hA
  obtain ⟨v1, vs1, d1, ds1, p1, q1, rfl, rfl, rfl, h1, r1⟩ := trodAll_cons r0
  obtain ⟨rfl, rfl, rfl⟩ := trodAll_nil r1
  obtain rfl : args = #[v0, v1] := by cases args; simp_all
  obtain ⟨x0, hx0⟩ := argB Try.underlying27 Try.underlying5 (by kernel_rfl) (by kernel_rfl) (hval 0 _ _ rfl rfl) h0 (weight_arg hsz (j := 0) rfl rfl)
  obtain ⟨x1, hx1⟩ := argB Try.underlying27 Try.underlying5 (by kernel_rfl) (by kernel_rfl) (hval 1 _ _ rfl rfl) h1 (weight_arg hsz (j := 1) rfl rfl)
  exact lawSeenNext_any _ _ x0 x1 W hx0 hx1

theorem seenNext_holds : Rows.FnSeenNextSaid :=
  OpenClaim.holds_of_wide 4 Try.f4 rfl rfl rfl rfl rfl rfl rfl ⟨rfl, rfl, rfl, rfl, rfl⟩ rfl rfl rfl rfl rfl (by kernel_rfl) Try.func4 (by kernel_rfl)
    (of_decide_eq_true (by kernel_rfl)) (by unfold Func.isWrapper; first | (rw [if_pos (by decide +kernel)]; kernel_rfl) | (rw [if_neg (by decide +kernel)]; exact ⟨rfl, rfl⟩))
    (fun os started H enc _ => seenNext_lifted os started H enc)
#print axioms seenNext_holds
end Go.Proofs.Ytlgeddbgbcineaa
