/-
FnLateRuns returns true for all arguments: the longest late run is late throughout, each moving sum is the sum of its delays, and no station's mean delay is greater than the worst station's; the argument stays as it was. No condition beyond the form's own reach.
-/
import Derived.Test.YthpijecjifmnbaaRows
import Derived.Test.YthpijecjifmnbaaLaw
import Derived.Test.YthpijecjifmnbaaDrE
import Derived.Test.YthpijecjifmnbaaLate
namespace Go.Proofs.Ythpijecjifmnbaa
open Go.ChangeShapes Go.WideShapes Go.ChangeAt Go.RowKit Go.Deep Go.Joins
set_option linter.unusedVariables false

theorem f6bigB_any (v : Value) (bs : List Int) (w : World) (hv : SlB w v bs) : Calls Try.prog 41 #[v] w fun e w' => e = .returned (.bool (decide (4096 < bs.length))) ∧ w = w' := by
  obtain ⟨A, c, rfl, hl⟩ := hv.op
  exact f6big_any bs.length A c w hl

set_option maxRecDepth 100000 in
set_option maxHeartbeats 8000000 in
theorem lawLateRuns_any (v0 : Value) (x0 : List Int) (w : World) (h0 : SlB w v0 x0) : Calls Try.prog 12 #[v0] w fun e w' => e = .returned (.bool true) ∧ Below w.heap.size w w' := by
  have HV := Lib.hid h0
  have HBG := Lib.hid (f6bigB_any v0 x0 w h0)
  clear h0
  by_cases hl : 4096 < x0.length
  · rw [decide_eq_true hl] at HBG
    go_enter Try.func12, Try.ntmps12
    go_wp2_with fail
    refine HBG.out.mono ?_
    rintro e w1 ⟨rfl, rfl⟩
    go_wp2
    go_ret
    exact ⟨rfl, Below.refl _ _⟩
  · rw [decide_eq_false hl] at HBG
    go_enter Try.func12, Try.ntmps12
    go_wp2_with fail
    refine HBG.out.mono ?_
    rintro e w1 ⟨rfl, rfl⟩
    clear HBG
    go_wp2_with fail
    refine (drawLL_any v0 x0 _ HV.out (by omega)).mono ?_
    rintro e w1 ⟨A, n, c, ts, tk, hn, rfl, hl1, rfl, -, hv, hb1⟩
    have HT := Lib.hid hv; have HB1 := Lib.hid hb1; have HV1 := Lib.hid (HV.out.ex hb1)
    have HLT := Lib.hid (fun h => longest_tells (ts := ts) (n := tk) h)
    have HIL := Lib.hid (fun W (a : SlTrip W (.slice A ts.length c) ts) => implLongest_any _ ts tk W a hn)
    have HSL := Lib.hid (fun W (a : SlTrip W (.slice A ts.length c) ts) => specLongest_any _ ts tk W a hn)
    generalize (longestR ts tk).1 = qa at HLT HIL HSL
    generalize (longestR ts tk).2.1 = qb at HLT HIL HSL
    generalize (longestR ts tk).2.2 = qc at HLT HIL HSL
    clear hv hb1
    go_wp2_with fail
    refine (HIL.out _ HT.out).mono ?_
    rintro e w2 ⟨rfl, hb2⟩
    have HB2 := Lib.hid (below_next0 HB1.out hb2); have HT2 := Lib.hid (HT.out.ex hb2); have HV2 := Lib.hid (HV1.out.ex hb2)
    clear hb2 HIL
    go_wp2_with fail
    refine (HSL.out _ HT2.out).mono ?_
    rintro e w3 ⟨rfl, hb3⟩
    have HB3 := Lib.hid (below_next0 HB2.out hb3); have HT3 := Lib.hid (HT2.out.ex hb3); have HV3 := Lib.hid (HV2.out.ex hb3)
    clear hb3 HSL
    go_wp2_with fail
    refine (drawMv_any v0 x0 _ HV3.out (by omega)).mono ?_
    rintro e w4 ⟨B, n, d, us, mq, hm, rfl, hl2, rfl, hcp, hv, hb4⟩
    have HU4 := Lib.hid hv; have HB4 := Lib.hid (below_next0 HB3.out hb4); have HT4 := Lib.hid (HT3.out.ex hb4)
    have HMT := Lib.hid (moving_tells us mq)
    have HIM := Lib.hid (fun W (a : SlTrip W (.slice B us.length d) us) => implMoving_any _ us mq W ⟨a, hcp⟩ hm)
    have HSM := Lib.hid (fun W (a : SlTrip W (.slice B us.length d) us) => specMoving_any _ us mq W ⟨a, hcp⟩ hm)
    generalize (movingR us mq).1 = L at HMT HIM HSM
    generalize (movingR us mq).2 = mc at HIM HSM
    clear hv hb4 hcp HB3 HT3 HV3 HB2 HT2 HV2 HB1 HT HV1
    go_wp2_with fail
    refine (HIM.out _ HU4.out).mono ?_
    rintro e w5 ⟨A5, c5, rfl, ho5, hb5⟩
    have HB5 := Lib.hid (below_next0 HB4.out hb5); have HT5 := Lib.hid (HT4.out.ex hb5); have HU5 := Lib.hid (HU4.out.ex hb5); have HL5 : Hid (SlI w5 (.slice A5 L.length c5) L) := Lib.hid (Ow.sl ho5)
    clear hb5 HIM ho5
    go_wp2_with fail
    refine (HSM.out _ HU5.out).mono ?_
    rintro e w6 ⟨A6, c6, rfl, ho6, hb6⟩
    have HB6 := Lib.hid (below_next0 HB5.out hb6); have HT6 := Lib.hid (HT5.out.ex hb6); have HU6 := Lib.hid (HU5.out.ex hb6); have HL6 := Lib.hid (HL5.out.ex hb6); have HM6 : Hid (SlI w6 (.slice A6 L.length c6) L) := Lib.hid (Ow.sl ho6)
    clear hb6 HSM ho6 HB4 HB5 HT4 HT5 HU4 HU5 HL5
    have HWT := Lib.hid (fun h => worst_tells (ts := ts) h)
    have HIW := Lib.hid (fun W (a : SlTrip W (.slice A ts.length c) ts) => implWorst_any _ ts W a)
    have HSW := Lib.hid (fun W (a : SlTrip W (.slice A ts.length c) ts) => specWorst_any _ ts W a)
    generalize (worstR ts).1 = wq at HWT HIW HSW
    generalize (worstR ts).2 = wc at HWT HIW HSW
    go_wp2_with fail
    refine (HIW.out _ HT6.out).mono ?_
    rintro e w7 ⟨rfl, hb7⟩
    have HB7 := Lib.hid (below_next0 HB6.out hb7); have HT7 := Lib.hid (HT6.out.ex hb7); have HU7 := Lib.hid (HU6.out.ex hb7); have HL7 := Lib.hid (HL6.out.ex hb7); have HM7 := Lib.hid (HM6.out.ex hb7)
    clear hb7 HIW HB6 HT6 HU6 HL6 HM6
    go_wp2_with fail
    refine (HSW.out _ HT7.out).mono ?_
    rintro e w8 ⟨rfl, hb8⟩
    have HB8 := Lib.hid (below_next0 HB7.out hb8); have HT8 := Lib.hid (HT7.out.ex hb8); have HU8 := Lib.hid (HU7.out.ex hb8); have HL8 := Lib.hid (HL7.out.ex hb8); have HM8 := Lib.hid (HM7.out.ex hb8)
    clear hb8 HSW HB7 HT7 HU7 HL7 HM7
    go_wp2_with fail
    refine (f6ints_any _ _ L _ HL8.out HM8.out).mono ?_
    rintro e w9 ⟨rfl, hb9⟩
    have HB := Lib.hid (below_next0 HB8.out hb9); have HT := Lib.hid (HT8.out.ex hb9); have HU := Lib.hid (HU8.out.ex hb9); have HM := Lib.hid (HM8.out.ex hb9)
    clear hb9 HB8 HT8 HU8 HL8 HM8
    obtain ⟨A', c', hv9, hMl, hMc⟩ := HM.out.op
    injection hv9 with hv9 _ hv8
    subst hv9 hv8
    have HMC := Lib.hid hMc
    clear hMc HM
    obtain ⟨A', c', hv9, _, hTc⟩ := HT.out.op
    injection hv9 with hv9 _ hv8
    subst hv9 hv8
    have HTC := Lib.hid hTc
    clear hTc
    obtain ⟨A', c', hv9, _, hUc⟩ := HU.out.op
    injection hv9 with hv9 _ hv8
    subst hv9 hv8
    have HUC := Lib.hid hUc
    clear hUc
    go_wp2
    go_loopw [21] (fun v21 wr => ∃ k : Nat, v21 = .int .i64 k ∧ k ≤ L.length ∧ Hid (Below w9.heap.size w9 wr)) (fun v21 _ => L.length - (intOf v21).toNat)
    case atStart => exact ⟨0, rfl, Nat.zero_le _, Lib.hid (Below.refl _ _)⟩
    case round =>
      obtain ⟨k, rfl, hk, HR⟩ := hrel
      by_cases hlt : k < L.length
      · have hki : (k : Int) < (L.length : Int) := by omega
        obtain ⟨hu100, HOK, q, HQ, hq1, hq2, hkq, HSUM⟩ : us.length ≤ 100 ∧ Hid (∀ (k : Nat) (hk : k < us.length), Trip.ok us[k] = true) ∧ ∃ q : Nat, Hid (mq = (q : Int)) ∧ 1 ≤ q ∧ q ≤ 100 ∧ k + q ≤ us.length ∧ Hid (L[k] = (((lates us).drop k).take q).sum) := by
          rcases HMT.out with hq | ⟨a1, a2, q, a3, a4, a5, a6⟩
          · rw [hq] at hlt; simp at hlt
          · exact ⟨a1, Lib.hid a2, q, Lib.hid a3, a4, a5, (a6 k hlt).1, Lib.hid (a6 k hlt).2⟩
        have hmq1 : 1 ≤ mq := by have := HQ.out; omega
        have hmq2 : mq ≤ 100 := by have := HQ.out; omega
        have HDL : Hid (((lates us).drop k).length = us.length - k) := Lib.hid (by rw [List.length_drop, lates_len])
        have HDB : Hid (∀ t : Nat, t ≤ ((lates us).drop k).length → 0 ≤ (((lates us).drop k).take t).sum ∧ (((lates us).drop k).take t).sum ≤ 10000 * (t : Int)) := Lib.hid (sum_bd fun x hx => lates_bd HOK.out x (List.mem_of_mem_drop hx))
        have HDG : Hid (∀ t (h : k + t < us.length), (((lates us).drop k).take (t + 1)).sum = (((lates us).drop k).take t).sum + us[k + t].late) := Lib.hid fun t h => by
          rw [sum_take (by rw [HDL.out]; omega), List.getElem_drop, lates_get h]
        generalize (lates us).drop k = ds at HDL HDB HDG HSUM
        go_wp2
        go_loopw [22, 23] (fun v22 v23 wr2 => ∃ t : Nat, v22 = .int .i64 ((ds.take t).sum) ∧ v23 = .int .i64 ((k + t : Nat) : Int) ∧ t ≤ q ∧ Hid (Below w9.heap.size w9 wr2)) (fun _ v23 _ => k + q - (intOf v23).toNat)
        case atStart => exact ⟨0, by simp, rfl, Nat.zero_le _, HR⟩
        case round =>
          clear HR
          obtain ⟨t, rfl, rfl, ht, HR⟩ := hrel
          obtain ⟨s1, s2⟩ := HDB.out t (by rw [HDL.out]; omega)
          by_cases htq : t < q
          · have hti : ((k + t : Nat) : Int) < (k : Int) + mq := by have := HQ.out; omega
            have hkt : k + t < us.length := by omega
            have hkti : ((k + t : Nat) : Int) < (us.length : Int) := by omega
            obtain ⟨b, o, rfl, hbs, hc0, hc1, hc2⟩ := HUC.out (k + t) hkt
            have hx0 := (HR.out.cell (p := ⟨b, o + (k + t) * 3, none⟩) hbs).trans hc0
            have hx1 := (HR.out.cell (p := ⟨b, o + (k + t) * 3 + 1, none⟩) hbs).trans hc1
            have hx2 := (HR.out.cell (p := ⟨b, o + (k + t) * 3 + 2, none⟩) hbs).trans hc2
            have HC := Lib.hid (fun W => f6late_any us[k + t].to us[k + t].due us[k + t].came W (HOK.out (k + t) hkt))
            have hk' : Trip.late ⟨us[k + t].to, us[k + t].due, us[k + t].came⟩ = us[k + t].late := rfl
            rw [hk'] at HC
            have HS1 := Lib.hid (HDG.out t hkt)
            obtain ⟨d1, d2⟩ := Trip.late_bd (HOK.out (k + t) hkt)
            generalize us[k + t].late = x at HC HS1 d1 d2
            generalize us[k + t].to = y0 at HC hx0
            generalize us[k + t].due = y1 at HC hx1
            generalize us[k + t].came = y2 at HC hx2
            generalize (ds.take t).sum = s at HS1 s1 s2 ⊢
            clear hc0 hc1 hc2 hk'
            obtain ⟨kt, HKT⟩ : ∃ kt : Nat, Hid (k + t = kt) := ⟨_, Lib.hid rfl⟩
            rw [HKT.out] at hti hkt hkti hx0 hx1 hx2 ⊢
            go_wp2_with (go_at_call 45; refine (HC.out _).mono ?_; rintro e w2 ⟨rfl, hb2⟩)
            go_roundw
            case rel => exact ⟨t + 1, by rw [HS1.out], by have := HKT.out; go_num, by omega, Lib.hid (below_next0 HR.out hb2)⟩
            case measure => simp [intOf]; have := HKT.out; omega
          · obtain rfl : t = q := by omega
            have hti : ¬ (((k + t : Nat) : Int) < (k : Int) + mq) := by have := HQ.out; omega
            obtain ⟨b9, o9, hA9, hbs, hcc⟩ := HMC.out k hlt
            have hcell := (HR.out.cell (p := ⟨b9, o9 + k, none⟩) hbs).trans (hcc k hlt)
            rw [HSUM.out] at hcell
            generalize (ds.take t).sum = s at hcell s1 s2 ⊢
            subst hA9
            clear hcc
            obtain ⟨kt, HKT⟩ : ∃ kt : Nat, Hid (k + t = kt) := ⟨_, Lib.hid rfl⟩
            rw [HKT.out] at hti ⊢
            go_wp2
            go_roundw
            case rel => exact ⟨k + 1, by go_num, by omega, HR⟩
            case measure => simp [intOf]; omega
      · have hki : ¬ ((k : Int) < (L.length : Int)) := by omega
        clear HMC HMT HUC HU
        by_cases hwc : wc = 0
        · subst hwc
          obtain ⟨hts, HOK, bn, HWB, hb10, hcb, HBEST⟩ : ts.length ≤ 100 ∧ Hid (∀ (k : Nat) (hk : k < ts.length), Trip.ok ts[k] = true) ∧ ∃ b : Nat, Hid (wq = (b : Int)) ∧ b < 10 ∧ 0 < accF (fun _ => 1) ts ts.length b ∧ Hid (∀ (i : Nat) (hi : i < ts.length), ∃ q : Nat, ts[i].to = (q : Int) ∧ accF Trip.late ts ts.length q * accF (fun _ => 1) ts ts.length b ≤ accF Trip.late ts ts.length b * accF (fun _ => 1) ts ts.length q) := by
            obtain ⟨a1, a2, b, a3, a4, a5, a6⟩ := HWT.out rfl
            exact ⟨a1, Lib.hid a2, b, Lib.hid a3, a4, a5, Lib.hid a6⟩
          have HFM := Lib.hid (fun W (a : SlTrip W (.slice A ts.length c) ts) (h : Nat) => f6mean_any _ ts h W a HOK.out hts)
          have HLB : Hid (∀ h : Nat, 0 ≤ accF Trip.late ts ts.length h ∧ accF Trip.late ts ts.length h ≤ 1000000) := Lib.hid fun h => by have := accF_bd (m := 10000) (by omega) (fun k hk => by rw [trA_at hk]; exact Trip.late_bd (HOK.out k hk)) h ts.length (Nat.le_refl _); omega
          have HCB : Hid (∀ h : Nat, 0 ≤ accF (fun _ => 1) ts ts.length h ∧ accF (fun _ => 1) ts ts.length h ≤ 100) := Lib.hid fun h => by have := accF_bd (f := fun _ => 1) (m := 1) (by omega) (ts := ts) (fun k hk => by omega) h ts.length (Nat.le_refl _); omega
          obtain ⟨lb1, lb2⟩ := HLB.out bn
          obtain ⟨cb1, cb2⟩ := HCB.out bn
          have HFB := Lib.hid (fun W (a : SlTrip W (.slice A ts.length c) ts) => HFM.out W a bn)
          generalize accF Trip.late ts ts.length bn = sb at HBEST HFB lb1 lb2
          generalize accF (fun _ => 1) ts ts.length bn = cb at HBEST HFB hcb cb1 cb2
          have hcz : (cb == 0) = false := by simp; omega
          rw [HWB.out]
          go_wp2
          go_loopw [24] (fun v24 wr => ∃ k : Nat, v24 = .int .i64 k ∧ k ≤ ts.length ∧ Hid (Below w9.heap.size w9 wr)) (fun v24 _ => ts.length - (intOf v24).toNat)
          case atStart => exact ⟨0, rfl, Nat.zero_le _, HR⟩
          case round =>
            clear HR
            obtain ⟨j, rfl, hj, HR⟩ := hrel
            by_cases hjt : j < ts.length
            · have hji : (j : Int) < (ts.length : Int) := by omega
              obtain ⟨b9, o9, hA9, hbs, hc0, hc1, hc2⟩ := HTC.out j hjt
              have hx0 := (HR.out.cell (p := ⟨b9, o9 + j * 3, none⟩) hbs).trans hc0
              obtain ⟨q, hto, hle⟩ := HBEST.out j hjt
              rw [hto] at hx0
              have HTR := Lib.hid (HT.out.ex HR.out)
              obtain ⟨l1, l2⟩ := HLB.out q
              obtain ⟨e1, e2⟩ := HCB.out q
              have HFQ := Lib.hid (fun W (a : SlTrip W (.slice A ts.length c) ts) => HFM.out W a q)
              generalize accF Trip.late ts ts.length q = sq at hle HFQ l1 l2
              generalize accF (fun _ => 1) ts ts.length q = cq at hle HFQ e1 e2
              have p1 : 0 ≤ sq * cb := Int.mul_nonneg l1 cb1
              have p2 : sq * cb ≤ 1000000 * 100 := Int.mul_le_mul l2 cb2 cb1 (by omega)
              have p3 : 0 ≤ sb * cq := Int.mul_nonneg lb1 e1
              have p4 : sb * cq ≤ 1000000 * 100 := Int.mul_le_mul lb2 e2 e1 (by omega)
              have hnl : ¬ (sb * cq < sq * cb) := by omega
              clear hc0 hc1 hc2 hto
              subst hA9
              go_wp2_with fail
              refine (HFQ.out _ HTR.out).mono ?_
              rintro e w2 ⟨rfl, hb2⟩
              have HR2 := Lib.hid (below_next0 HR.out hb2); have HT2 := Lib.hid (HTR.out.ex hb2)
              clear hb2 HR HTR
              go_wp2_with fail
              refine (HFB.out _ HT2.out).mono ?_
              rintro e w3 ⟨rfl, hb3⟩
              have HR3 := Lib.hid (below_next0 HR2.out hb3)
              clear hb3 HR2 HT2
              go_wp2
              go_roundw
              case rel => exact ⟨j + 1, by go_num, by omega, HR3⟩
              case measure => simp [intOf]; omega
            · have hji : ¬ ((j : Int) < (ts.length : Int)) := by omega
              clear HFM HFB HLB HCB HBEST
              by_cases hqc : qc = 0
              · subst hqc
                obtain ⟨⟨hqa, hqb, hab⟩, ht100, hok, hrun⟩ := HLT.out rfl
                obtain ⟨an, rfl⟩ := Int.eq_ofNat_of_zero_le hqa
                obtain ⟨bn2, rfl⟩ := Int.eq_ofNat_of_zero_le hqb
                have HOK2 := Lib.hid hok; have HRUN := Lib.hid hrun
                clear hok hrun HLT
                go_wp2
                go_loopw [29] (fun v29 wr => ∃ k : Nat, v29 = .int .i64 k ∧ an ≤ k ∧ k ≤ an + bn2 ∧ Hid (Below w9.heap.size w9 wr)) (fun v29 _ => an + bn2 - (intOf v29).toNat)
                case atStart => exact ⟨an, rfl, Nat.le_refl _, by omega, HR⟩
                case round =>
                  clear HR
                  obtain ⟨i, rfl, hi1, hi2, HR⟩ := hrel
                  by_cases hib : i < an + bn2
                  · have hii : (i : Int) < (an : Int) + (bn2 : Int) := by omega
                    have hit : i < ts.length := by omega
                    have hiti : (i : Int) < (ts.length : Int) := by omega
                    obtain ⟨b9, o9, hA9, hbs, hc0, hc1, hc2⟩ := HTC.out i hit
                    have hx0 := (HR.out.cell (p := ⟨b9, o9 + i * 3, none⟩) hbs).trans hc0
                    have hx1 := (HR.out.cell (p := ⟨b9, o9 + i * 3 + 1, none⟩) hbs).trans hc1
                    have hx2 := (HR.out.cell (p := ⟨b9, o9 + i * 3 + 2, none⟩) hbs).trans hc2
                    have HC := Lib.hid (fun W => f6late_any ts[i].to ts[i].due ts[i].came W (HOK2.out i hit))
                    have hk' : Trip.late ⟨ts[i].to, ts[i].due, ts[i].came⟩ = ts[i].late := rfl
                    rw [hk'] at HC
                    have hlate := HRUN.out i hit (by omega) (by omega)
                    generalize ts[i].late = x at HC hlate
                    generalize ts[i].to = y0 at HC hx0
                    generalize ts[i].due = y1 at HC hx1
                    generalize ts[i].came = y2 at HC hx2
                    clear hc0 hc1 hc2 hk'
                    subst hA9
                    have hnle : ¬ (x ≤ tk) := by omega
                    go_wp2_with (go_at_call 45; refine (HC.out _).mono ?_; rintro e w2 ⟨rfl, hb2⟩)
                    go_roundw
                    case rel => exact ⟨i + 1, by go_num, by omega, by omega, Lib.hid (below_next0 HR.out hb2)⟩
                    case measure => simp [intOf]; omega
                  · have hii : ¬ ((i : Int) < (an : Int) + (bn2 : Int)) := by omega
                    go_wp2
                    go_ret
                    exact ⟨rfl, below_next0 HB.out HR.out⟩
              · have hqb : (qc != 0) = true := by simpa using hqc
                clear hqc HLT
                go_wp2
                go_ret
                exact ⟨rfl, below_next0 HB.out HR.out⟩
        · have hwb : (wc == 0) = false := by simpa using hwc
          clear hwc HWT
          by_cases hqc : qc = 0
          · subst hqc
            obtain ⟨⟨hqa, hqb, hab⟩, ht100, hok, hrun⟩ := HLT.out rfl
            obtain ⟨an, rfl⟩ := Int.eq_ofNat_of_zero_le hqa
            obtain ⟨bn2, rfl⟩ := Int.eq_ofNat_of_zero_le hqb
            have HOK2 := Lib.hid hok; have HRUN := Lib.hid hrun
            clear hok hrun HLT
            go_wp2
            go_loopw [29] (fun v29 wr => ∃ k : Nat, v29 = .int .i64 k ∧ an ≤ k ∧ k ≤ an + bn2 ∧ Hid (Below w9.heap.size w9 wr)) (fun v29 _ => an + bn2 - (intOf v29).toNat)
            case atStart => exact ⟨an, rfl, Nat.le_refl _, by omega, HR⟩
            case round =>
              clear HR
              obtain ⟨i, rfl, hi1, hi2, HR⟩ := hrel
              by_cases hib : i < an + bn2
              · have hii : (i : Int) < (an : Int) + (bn2 : Int) := by omega
                have hit : i < ts.length := by omega
                have hiti : (i : Int) < (ts.length : Int) := by omega
                obtain ⟨b9, o9, hA9, hbs, hc0, hc1, hc2⟩ := HTC.out i hit
                have hx0 := (HR.out.cell (p := ⟨b9, o9 + i * 3, none⟩) hbs).trans hc0
                have hx1 := (HR.out.cell (p := ⟨b9, o9 + i * 3 + 1, none⟩) hbs).trans hc1
                have hx2 := (HR.out.cell (p := ⟨b9, o9 + i * 3 + 2, none⟩) hbs).trans hc2
                have HC := Lib.hid (fun W => f6late_any ts[i].to ts[i].due ts[i].came W (HOK2.out i hit))
                have hk' : Trip.late ⟨ts[i].to, ts[i].due, ts[i].came⟩ = ts[i].late := rfl
                rw [hk'] at HC
                have hlate := HRUN.out i hit (by omega) (by omega)
                generalize ts[i].late = x at HC hlate
                generalize ts[i].to = y0 at HC hx0
                generalize ts[i].due = y1 at HC hx1
                generalize ts[i].came = y2 at HC hx2
                clear hc0 hc1 hc2 hk'
                subst hA9
                have hnle : ¬ (x ≤ tk) := by omega
                go_wp2_with (go_at_call 45; refine (HC.out _).mono ?_; rintro e w2 ⟨rfl, hb2⟩)
                go_roundw
                case rel => exact ⟨i + 1, by go_num, by omega, by omega, Lib.hid (below_next0 HR.out hb2)⟩
                case measure => simp [intOf]; omega
              · have hii : ¬ ((i : Int) < (an : Int) + (bn2 : Int)) := by omega
                go_wp2
                go_ret
                exact ⟨rfl, below_next0 HB.out HR.out⟩
          · have hqb : (qc != 0) = true := by simpa using hqc
            clear hqc HLT
            go_wp2
            go_ret
            exact ⟨rfl, below_next0 HB.out HR.out⟩

set_option maxRecDepth 100000 in
theorem lateRuns_lifted (os : Os) (started : os.Started) (H : Type) (enc : TypeId × Value → H) :
    ReturnsInHanded {} Try.checked os 12 .any (Rows.fnLateRunsSpec.pre6 enc Try.checked.prog Try.f12 Rows.fnLateRunsRow.domain false) (Rows.fnLateRunsSpec.post enc Try.checked.prog Try.f12 false true false false) := by
  refine law_lifted os started H enc (by kernel_rfl) Try.func12
    (ChangeSpec.witness6 (enc := enc) (C := Try.checked) false ⟨#[], #[.slice none 0 0], []⟩ 8 (by kernel_rfl) (by kernel_rfl) (by kernel_rfl) (by kernel_rfl))
    rfl rfl rfl (by rw [Try.params12]; intro t ht; simp only [List.mem_cons, List.not_mem_nil, or_false] at ht; subst ht; exact ⟨by kernel_rfl, of_decide_eq_true (by kernel_rfl)⟩)
    (fun ds hl => by match ds, hl with | [d0], _ => exact ⟨rfl, rfl, rfl⟩) ?_
  intro W base args ds p hval hA hlt hsz
  rw [Try.params12] at hA hval hsz
  obtain ⟨v0, vs0, d0, ds0, p0, q0, hargs, rfl, rfl, h0, r0⟩ := trodAll_cons hA
  obtain ⟨rfl, rfl, rfl⟩ := trodAll_nil r0
  obtain rfl : args = #[v0] := by cases args; simp_all
  obtain ⟨x0, hx0⟩ := argB Try.underlying54 Try.underlying5 (by kernel_rfl) (by kernel_rfl) (hval 0 _ _ rfl rfl) h0 (weight_arg hsz (j := 0) rfl rfl)
  exact lawLateRuns_any _ x0 W hx0

theorem lateRuns_holds : Rows.FnLateRunsSaid :=
  OpenClaim.holds_of_wide 12 Try.f12 rfl rfl rfl rfl rfl rfl rfl ⟨rfl, rfl, rfl, rfl, rfl⟩ rfl rfl rfl rfl rfl (by kernel_rfl) Try.func12 (by kernel_rfl)
    (of_decide_eq_true (by kernel_rfl)) (by unfold Func.isWrapper; first | (rw [if_pos (by decide +kernel)]; kernel_rfl) | (rw [if_neg (by decide +kernel)]; exact ⟨rfl, rfl⟩))
    (fun os started H enc _ => lateRuns_lifted os started H enc)
#print axioms lateRuns_holds
end Go.Proofs.Ythpijecjifmnbaa
