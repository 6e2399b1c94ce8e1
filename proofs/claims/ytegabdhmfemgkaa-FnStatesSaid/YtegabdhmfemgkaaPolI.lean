/-
Carriers that can go on: l12Moves of the reference. Condition: the slices read as lists; valid halls and ways; one place for each way.
-/
import Derived.Test.YtegabdhmfemgkaaPolH
namespace Go.Proofs.Ytegabdhmfemgkaa
open Go.RowKit
set_option linter.unusedVariables false

section
variable {halls : List Int} {ways : List (List Int)} {most : Int} {pl : List Int} {c : Nat}
theorem mv_gt (hc : c < ways.length) (h : (ways[c].length : Int) < plc pl c) : mvB halls ways most pl c = false := by rw [mvB_at hc, if_pos h]
theorem mv_eq (hc : c < ways.length) (h : plc pl c = (ways[c].length : Int)) (h1 : 1 ≤ ways[c].length) : mvB halls ways most pl c = true := by
  rw [mvB_at hc, if_neg (by omega), if_neg (by omega), hallP_neg (.inr (by omega)), if_pos (by omega)]
theorem mv_zero (hc : c < ways.length) (h : plc pl c = 0) (h1 : most ≤ allF ways pl ways.length) : mvB halls ways most pl c = false := by
  rw [mvB_at hc, if_neg (by omega), if_pos ⟨h, h1⟩]
theorem mv_in (hc : c < ways.length) {q h : Nat} (hp : plc pl c = (q : Int)) (hq : q < ways[c].length) (hh : ways[c][q] = (h : Int)) (hl : h < halls.length) (hn : ¬ (plc pl c = 0 ∧ most ≤ allF ways pl ways.length)) :
    mvB halls ways most pl c = decide (cntF ways pl ways.length h < halls[h]) := by
  rw [mvB_at hc, if_neg (by omega), if_neg hn, hp, hallP_pos hq, hh, if_neg (by omega)]
  simp [List.getD_eq_getElem?_getD, hl]
end

set_option maxHeartbeats 2000000 in
theorem l12Moves_any (v u r : Value) (halls : List Int) (ways : List (List Int)) (pl : List Int) (most : Int) (w : World) (hv : SlI w v halls) (hu : SlII w u ways) (hr : SlI w r pl) (hlen : pl.length = ways.length) (ht : travOk halls ways = true) (hp0 : ∀ k, k < ways.length → 0 ≤ plc pl k) :
    Calls Try.prog 85 #[v, u, r, .int .i64 most] w fun e w' => ∃ A c, e = .returned (.slice A (movesL halls ways most pl).length c) ∧ OwI w' w.heap.size (.slice A (movesL halls ways most pl).length c) (movesL halls ways most pl) ∧ Below w.heap.size w w' := by
  obtain ⟨⟨h1, h6⟩, hbd, h4, hway⟩ := travOk_at ht
  have HROOM := Lib.hid (l12Room_any v u r halls ways pl w hv hu hr hlen h1 h6 h4 hbd hway)
  have HINS := Lib.hid fun (W : World) (hW : Below w.heap.size w W) => l12Inside_any u r halls.length ways pl W (hu.ex hW) (hr.ex hW) hlen h4 hway
  obtain ⟨A, d, rfl, hla, ha⟩ := hv.op
  obtain ⟨B, f, rfl, hlb, hat⟩ := hu.op
  obtain ⟨R, g, rfl, hlr, hrt⟩ := hr.op
  have HAT := Lib.hid hat; have HRT := Lib.hid hrt
  have HLEN := Lib.hid hlen
  have HWL : Hid (∀ k (h : k < ways.length), 1 ≤ ways[k].length ∧ ways[k].length ≤ 5) := Lib.hid fun k h => (wayOk_at (hway _ (List.getElem_mem h))).1
  have HWN : Hid (∀ k (h : k < ways.length) q (hq : q < ways[k].length), ∃ n : Nat, n < halls.length ∧ ways[k][q] = (n : Int)) := Lib.hid fun k h q hq => by
    have := (wayOk_at (hway _ (List.getElem_mem h))).2 _ (List.getElem_mem hq)
    exact ⟨(ways[k][q]).toNat, by omega, by omega⟩
  have HP0 := Lib.hid hp0
  have HML : Hid (movesL halls ways most pl = movesK halls ways most pl ways.length) := Lib.hid rfl
  have HMLen := Lib.hid (movesK_len halls ways most pl)
  clear hv hu hr ha hat hrt hway hbd hp0 ht
  rw [hlen] at HROOM HINS ⊢
  rw [hlen] at hlr
  clear hlen
  go_enter Try.func85, Try.ntmps85
  go_wp2_with fail
  refine HROOM.out.mono ?_
  rintro e w1 ⟨A1, c1, rfl, hown, hb1⟩
  have HRW := Lib.hid (hown.ex (below_alloc w1 (.cells #[] 2)))
  have HEM0 := Lib.hid (owI_empty w1 w.heap.size hb1.size)
  have HSEP0 : Hid (Sep (.slice A1 halls.length c1) (.slice (some ⟨w1.heap.size, 0, none⟩) 0 0)) := Lib.hid (Ow.sep_new hown (owI_empty w1 w1.heap.size (Nat.le_refl _)) (Nat.le_refl _))
  have HB1 := Lib.hid (below_next0 hb1 (below_alloc w1 (.cells #[] 2)))
  have HM0 : Hid (movesK halls ways most pl 0 = []) := Lib.hid rfl
  clear hown hb1 HROOM
  go_wp2
  go_loopw [10, 11] (fun ov i wr => ∃ (k : Nat) (A2 : Option Addr) (n2 c2 : Nat), k ≤ ways.length ∧ i = .int .i64 k ∧ ov = .slice A2 n2 c2 ∧ n2 ≤ k ∧ Hid ((movesK halls ways most pl k).length = n2) ∧ Hid (OwI wr w.heap.size (.slice A2 n2 c2) (movesK halls ways most pl k)) ∧ Hid (OwI wr w.heap.size (.slice A1 halls.length c1) (roomL halls ways pl ways.length)) ∧ Hid (Sep (.slice A1 halls.length c1) (.slice A2 n2 c2)) ∧ Hid (Below w.heap.size w wr)) (fun _ i _ => ways.length - (intOf i).toNat)
  case atStart => exact ⟨0, _, 0, 0, Nat.zero_le _, rfl, rfl, Nat.le_refl _, Lib.hid rfl, Lib.hid HEM0.out, HRW, HSEP0, HB1⟩
  case round =>
    obtain ⟨k, A2, n2, c2, hk, rfl, rfl, hn2, HL2, HO2, HRM, HSP, HBB⟩ := hrel
    by_cases hkw : k < ways.length
    · have hlt : k < pl.length := by rw [HLEN.out]; exact hkw
      have hki : (k : Int) < (ways.length : Int) := by omega
      obtain ⟨b, o, rfl, hbs, hcc⟩ := HRT.out k hlt
      have hp := (HBB.out.cell (p := ⟨b, o + k, none⟩) hbs).trans (hcc k hlt)
      have HCP := Lib.hid (hcc k hlt)
      obtain ⟨bw, ow, A', c', rfl, hbsw, hcell, hrow⟩ := HAT.out k hkw
      have hpw := (HBB.out.cell (p := ⟨bw, ow + k, none⟩) hbsw).trans hcell
      have HCW := Lib.hid hcell
      have HX : Hid (pl[k] = plc pl k) := Lib.hid (by simp [plc, List.getD_eq_getElem?_getD, hlt])
      rw [HX.out] at hp HCP
      have hwl := HWL.out k hkw
      have hpn := HP0.out k hkw
      have HGT := Lib.hid (mv_gt (halls := halls) (most := most) (pl := pl) hkw)
      have HEQ := Lib.hid fun h => mv_eq (halls := halls) (most := most) (pl := pl) hkw h hwl.1
      have HZE := Lib.hid (mv_zero (halls := halls) (most := most) (pl := pl) hkw)
      have HIN := Lib.hid fun q h => mv_in (halls := halls) (most := most) (pl := pl) hkw (q := q) (h := h)
      have HNO := Lib.hid (movesK_no (halls := halls) (ways := ways) (most := most) (pl := pl) (k := k))
      have HYE := Lib.hid (movesK_yes (halls := halls) (ways := ways) (most := most) (pl := pl) (k := k))
      obtain ⟨A5, c5, hveq, hla2, ha2⟩ := hrow.op
      injection hveq with hA5 hn5 hc5
      subst hA5 hc5
      clear hn5
      have HW2 := Lib.hid ha2
      have HWQ := Lib.hid (HWN.out k hkw)
      generalize ways[k] = way at hpw HCW hwl HW2 HGT HEQ HIN hla2 HWQ
      generalize plc pl k = p at hp HCP hpn HGT HEQ HZE HIN
      clear hcc hcell hrow ha2
      by_cases hgt : (way.length : Int) < p
      · have HE := Lib.hid (HNO.out (HGT.out hgt))
        have HLL : Hid ((movesK halls ways most pl (k + 1)).length = n2) := Lib.hid (by rw [HE.out]; exact HL2.out)
        have HOO : Hid (OwI wr w.heap.size (.slice A2 n2 c2) (movesK halls ways most pl (k + 1))) := Lib.hid (by rw [HE.out]; exact HO2.out)
        go_wp2
        go_roundw
        case rel => exact ⟨k + 1, A2, n2, c2, by omega, by go_num, rfl, by omega, HLL, HOO, HRM, HSP, HBB⟩
        case measure => simp [intOf]; omega
      · by_cases heq : p = (way.length : Int)
        · have HE := Lib.hid (HYE.out (HEQ.out heq))
          have HPE := Lib.hid heq
          subst heq
          go_wp2_with (first | (at_builtin; refine wpList_appI2 wr rfl (.tmp 43) (.tmp 45) rfl w.heap.size w.heap.size w A2 n2 c2 _ _ _ _ rfl HO2.out HL2.out rfl HBB.out (Nat.le_refl _) HBB.out.size (by omega) HRM.out HSP.out ?_; intro A3 c3 w3 hown3 hsz3 hb3 hds3 hsep3; rw [← HE.out] at hown3; have HO3 := Lib.hid hown3; have HB3 := Lib.hid hb3; have HD3 := Lib.hid hds3; have HS3 := Lib.hid hsep3; clear hown3 hsz3 hb3 hds3 hsep3) | fail)
          go_roundw
          case rel => exact ⟨k + 1, A3, n2 + 1, c3, by omega, by go_num, rfl, by omega, Lib.hid (by rw [HE.out]; simp [HL2.out]), HO3, HD3, HS3, HB3⟩
          case measure => simp [intOf]; omega
        · obtain ⟨q, hq⟩ := Int.eq_ofNat_of_zero_le hpn
          subst hq
          have hqn : q < way.length := by omega
          have hqi : (q : Int) < (way.length : Int) := by omega
          obtain ⟨h, hh, hhk⟩ := HWQ.out q hqn
          have hhi : (h : Int) < (halls.length : Int) := by omega
          obtain ⟨b2, o2, rfl, hbs2, hcc2⟩ := HW2.out q hqn
          have HCQ := Lib.hid (hcc2 q hqn)
          rw [hhk] at HCQ
          have HI2 := Lib.hid (fun hn => HIN.out q h rfl hqn hhk hh hn)
          obtain ⟨A6, c6, hveq6, hla6, ha6⟩ := SlI.op (v := .slice A1 halls.length c1) (xs := roomL halls ways pl ways.length) (w := wr) HRM.out.sl
          injection hveq6 with hA6 hn6 hc6
          subst hA6 hc6
          obtain ⟨b3, o3, rfl, hbs3, hcc3⟩ := ha6 h (by rw [roomL_len]; exact hh)
          have hrm := hcc3 h (by rw [roomL_len]; exact hh)
          rw [roomL_get hh] at hrm
          have HCR := Lib.hid hrm
          clear hcc2 ha6 hcc3 hrm hn6 hla6 hhk HIN HEQ HGT
          by_cases hz : (q : Int) = 0
          · have hz0 : q = 0 := by omega
            have HZ := Lib.hid (HZE.out hz)
            go_wp2_with fail
            refine (HINS.out _ HBB.out).mono ?_
            rintro e w2 ⟨rfl, hb2⟩
            have HBW := Lib.hid (below_next0 HBB.out hb2)
            have HOW := Lib.hid (HO2.out.ex hb2)
            have HRW2 := Lib.hid (HRM.out.ex hb2)
            have hr1 := (hb2.cell (p := ⟨b3, o3 + h, none⟩) hbs3).trans HCR.out
            have hr2 := (HBW.out.cell (p := ⟨b, o + k, none⟩) hbs).trans HCP.out
            have hr3 := (HBW.out.cell (p := ⟨bw, ow + k, none⟩) hbsw).trans HCW.out
            have hr4 := (HBW.out.cell (p := ⟨b2, o2 + q, none⟩) hbs2).trans HCQ.out
            subst hz0
            have hr5 : w2.cell? ⟨b2, o2, none⟩ = some (.int .i64 (h : Int)) := by simpa using hr4
            have hw0 : (0 : Int) < (way.length : Int) := by omega
            have hw1 : 0 < way.length := by omega
            clear hb2 hp hpw hr4
            by_cases hmost : most ≤ allF ways pl ways.length
            · have HE := Lib.hid (HNO.out (HZ.out hmost))
              have HLL : Hid ((movesK halls ways most pl (k + 1)).length = n2) := Lib.hid (by rw [HE.out]; exact HL2.out)
              have HOO : Hid (OwI w2 w.heap.size (.slice A2 n2 c2) (movesK halls ways most pl (k + 1))) := Lib.hid (by rw [HE.out]; exact HOW.out)
              go_wp2
              go_roundw
              case rel => exact ⟨k + 1, A2, n2, c2, by omega, by go_num, rfl, by omega, HLL, HOO, HRW2, HSP, HBW⟩
              case measure => simp [intOf]; omega
            · have HINE := Lib.hid (HI2.out (fun hx => hmost hx.2))
              go_wp2
              cases hd : decide (cntF ways pl ways.length h < halls[h]) with
              | false =>
                have HE := Lib.hid (HNO.out (HINE.out.trans hd))
                have hy : ¬ (0 < halls[h] - cntF ways pl ways.length h) := by simp at hd; omega
                have HLL : Hid ((movesK halls ways most pl (k + 1)).length = n2) := Lib.hid (by rw [HE.out]; exact HL2.out)
                have HOO : Hid (OwI w2.drew w.heap.size (.slice A2 n2 c2) (movesK halls ways most pl (k + 1))) := Lib.hid (by rw [HE.out]; exact HOW.out.ex (Below.refl _ _).drew)
                have HRR : Hid (OwI w2.drew w.heap.size (.slice (some ⟨b3, o3, none⟩) halls.length c1) (roomL halls ways pl ways.length)) := Lib.hid (HRW2.out.ex (Below.refl _ _).drew)
                have HBD : Hid (Below w.heap.size w w2.drew) := Lib.hid HBW.out.drew
                generalize halls[h] - cntF ways pl ways.length h = y at hr1 hy
                clear hd
                go_region
                go_wp2
                go_roundw
                case rel => exact ⟨k + 1, A2, n2, c2, by omega, by go_num, rfl, by omega, HLL, HOO, HRR, HSP, HBD⟩
                case measure => simp [intOf]; omega
              | true =>
                have HE := Lib.hid (HYE.out (HINE.out.trans hd))
                have hy : 0 < halls[h] - cntF ways pl ways.length h := by simp at hd; omega
                have HOO : Hid (OwI w2.drew w.heap.size (.slice A2 n2 c2) (movesK halls ways most pl k)) := Lib.hid (HOW.out.ex (Below.refl _ _).drew)
                have HRR : Hid (OwI w2.drew w.heap.size (.slice (some ⟨b3, o3, none⟩) halls.length c1) (roomL halls ways pl ways.length)) := Lib.hid (HRW2.out.ex (Below.refl _ _).drew)
                have HBD : Hid (Below w.heap.size w w2.drew) := Lib.hid HBW.out.drew
                generalize halls[h] - cntF ways pl ways.length h = y at hr1 hy
                clear hd
                go_region
                go_wp2_with (first | (at_builtin; refine wpList_appI2 w2.drew rfl (.tmp 75) (.tmp 77) rfl w.heap.size w.heap.size w A2 n2 c2 _ _ _ _ rfl HOO.out HL2.out rfl HBD.out (Nat.le_refl _) HBD.out.size (by omega) HRR.out HSP.out ?_; intro A3 c3 w3 hown3 hsz3 hb3 hds3 hsep3; rw [← HE.out] at hown3; have HO3 := Lib.hid hown3; have HB3 := Lib.hid hb3; have HD3 := Lib.hid hds3; have HS3 := Lib.hid hsep3; clear hown3 hsz3 hb3 hds3 hsep3) | fail)
                go_roundw
                case rel => exact ⟨k + 1, A3, n2 + 1, c3, by omega, by go_num, rfl, by omega, Lib.hid (by rw [HE.out]; simp [HL2.out]), HO3, HD3, HS3, HB3⟩
                case measure => simp [intOf]; omega
          · have HINE := Lib.hid (HI2.out (fun hx => hz hx.1))
            have HBW := HBB
            have HOW := HO2
            have HRW2 := HRM
            have hr1 := HCR.out
            have hr4 := (HBB.out.cell (p := ⟨b2, o2 + q, none⟩) hbs2).trans HCQ.out
            go_wp2
            cases hd : decide (cntF ways pl ways.length h < halls[h]) with
            | false =>
              have HE := Lib.hid (HNO.out (HINE.out.trans hd))
              have hy : ¬ (0 < halls[h] - cntF ways pl ways.length h) := by simp at hd; omega
              have HLL : Hid ((movesK halls ways most pl (k + 1)).length = n2) := Lib.hid (by rw [HE.out]; exact HL2.out)
              have HOO : Hid (OwI wr.drew w.heap.size (.slice A2 n2 c2) (movesK halls ways most pl (k + 1))) := Lib.hid (by rw [HE.out]; exact HOW.out.ex (Below.refl _ _).drew)
              have HRR : Hid (OwI wr.drew w.heap.size (.slice (some ⟨b3, o3, none⟩) halls.length c1) (roomL halls ways pl ways.length)) := Lib.hid (HRW2.out.ex (Below.refl _ _).drew)
              have HBD : Hid (Below w.heap.size w wr.drew) := Lib.hid HBW.out.drew
              generalize halls[h] - cntF ways pl ways.length h = y at hr1 hy
              clear hd
              go_region
              go_wp2
              go_roundw
              case rel => exact ⟨k + 1, A2, n2, c2, by omega, by go_num, rfl, by omega, HLL, HOO, HRR, HSP, HBD⟩
              case measure => simp [intOf]; omega
            | true =>
              have HE := Lib.hid (HYE.out (HINE.out.trans hd))
              have hy : 0 < halls[h] - cntF ways pl ways.length h := by simp at hd; omega
              have HOO : Hid (OwI wr.drew w.heap.size (.slice A2 n2 c2) (movesK halls ways most pl k)) := Lib.hid (HOW.out.ex (Below.refl _ _).drew)
              have HRR : Hid (OwI wr.drew w.heap.size (.slice (some ⟨b3, o3, none⟩) halls.length c1) (roomL halls ways pl ways.length)) := Lib.hid (HRW2.out.ex (Below.refl _ _).drew)
              have HBD : Hid (Below w.heap.size w wr.drew) := Lib.hid HBW.out.drew
              generalize halls[h] - cntF ways pl ways.length h = y at hr1 hy
              clear hd
              go_region
              go_wp2_with (first | (at_builtin; refine wpList_appI2 wr.drew rfl (.tmp 75) (.tmp 77) rfl w.heap.size w.heap.size w A2 n2 c2 _ _ _ _ rfl HOO.out HL2.out rfl HBD.out (Nat.le_refl _) HBD.out.size (by omega) HRR.out HSP.out ?_; intro A3 c3 w3 hown3 hsz3 hb3 hds3 hsep3; rw [← HE.out] at hown3; have HO3 := Lib.hid hown3; have HB3 := Lib.hid hb3; have HD3 := Lib.hid hds3; have HS3 := Lib.hid hsep3; clear hown3 hsz3 hb3 hds3 hsep3) | fail)
              go_roundw
              case rel => exact ⟨k + 1, A3, n2 + 1, c3, by omega, by go_num, rfl, by omega, Lib.hid (by rw [HE.out]; simp [HL2.out]), HO3, HD3, HS3, HB3⟩
              case measure => simp [intOf]; omega
    · have hkn : k = ways.length := by omega
      have HR : Hid (n2 = (movesL halls ways most pl).length) := Lib.hid (by rw [HML.out, ← hkn, HL2.out])
      have HF : Hid (OwI wr w.heap.size (.slice A2 n2 c2) (movesL halls ways most pl)) := Lib.hid (by rw [HML.out, ← hkn]; exact HO2.out)
      subst hkn
      go_wp2
      go_ret
      rw [← HR.out]
      exact ⟨A2, c2, rfl, HF.out, HBB.out⟩
end Go.Proofs.Ytegabdhmfemgkaa
