/-
Carriers that can go on: moves of the program. Condition: the slices read as lists; valid halls and ways; one place for each way.
-/
import Derived.Test.YtegabdhmfemgkaaPolI
namespace Go.Proofs.Ytegabdhmfemgkaa
open Go.RowKit
set_option linter.unusedVariables false

theorem mv_hall {halls : List Int} {ways : List (List Int)} {most : Int} {pl : List Int} {c : Nat} (hc : c < ways.length) (h : ¬ (ways[c].length : Int) < plc pl c) (hn : ¬ (plc pl c = 0 ∧ most ≤ allF ways pl ways.length)) :
    mvB halls ways most pl c = if hallP ways[c] (plc pl c + 1) < 0 then true else decide (cntF ways pl ways.length (hallP ways[c] (plc pl c + 1)).toNat < halls.getD (hallP ways[c] (plc pl c + 1)).toNat 0) := by
  rw [mvB_at hc, if_neg h, if_neg hn]

set_option maxRecDepth 100000 in
set_option maxHeartbeats 2000000 in
theorem moves_any (v u : Value) (halls : List Int) (ways : List (List Int)) (pl : List Int) (most : Int) (w : World) (hv : SlI w v halls) (hu : SlII w u ways) (hlen : pl.length = ways.length) (ht : travOk halls ways = true) (hp0 : ∀ k, k < ways.length → 0 ≤ plc pl k ∧ plc pl k ≤ 1000) :
    Calls Try.prog 83 #[.agg #[v, u, .int .i64 most], stV pl] w fun e w' => ∃ A c, e = .returned (.slice A (movesL halls ways most pl).length c) ∧ OwN w' w.heap.size (.slice A (movesL halls ways most pl).length c) (movesL halls ways most pl) ∧ Below w.heap.size w w' := by
  obtain ⟨⟨h1, h6⟩, hbd, h4, hway⟩ := travOk_at ht
  have hIH := fun (W : World) (hW : Below w.heap.size w W) => inHalls_any v u halls ways most pl W (hv.ex hW) (hu.ex hW) h6 h4 hway
  have hDN := fun (c : Nat) (hc : c < ways.length) (W : World) (hW : Below w.heap.size w W) => isDone_any v u halls ways most pl c W (hv.ex hW) (hu.ex hW) hc h4
  have hHO := fun (c : Nat) (hc : c < ways.length) (W : World) (hW : Below w.heap.size w W) => hallOf_any v u halls ways most (pl.set c (plc pl c + 1)) c W (hv.ex hW) (hu.ex hW) hc h4
  have hMV := fun (c : Nat) (hc : c < ways.length) (W : World) => moved_any pl c W (by omega) (by omega) (hp0 c hc).1 (hp0 c hc).2
  have hST : ∀ c, c < ways.length → plc (pl.set c (plc pl c + 1)) c = plc pl c + 1 := fun c hc => by rw [stV_set pl c (by omega)]; simp
  obtain ⟨A, d, rfl, hla, ha⟩ := hv.op
  obtain ⟨B, f, rfl, hlb, hat⟩ := hu.op
  have HA := Lib.hid ha
  unfold stV at hIH hDN ⊢
  have HMVX : Hid (∀ c, c < ways.length → ∀ W, Calls Try.prog 78 #[.agg #[.int .i64 (plc pl 0), .int .i64 (plc pl 1), .int .i64 (plc pl 2), .int .i64 (plc pl 3)], .int .i64 c] W fun e w' => e = .returned (stV (pl.set c (plc pl c + 1))) ∧ Below W.heap.size W w') := Lib.hid hMV
  have HHOX := Lib.hid hHO
  have HIH := Lib.hid hIH; have HDN := Lib.hid hDN; have HST := Lib.hid hST
  have HKP : Hid (∀ c (hc : c < ways.length) p, hallP ways[c] p = -1 ∨ ∃ q : Nat, q < halls.length ∧ hallP ways[c] p = (q : Int)) := Lib.hid fun c hc p => hallP_in (hway _ (List.getElem_mem hc)) p
  have HP0 := Lib.hid hp0
  have HML : Hid (movesL halls ways most pl = movesK halls ways most pl ways.length) := Lib.hid rfl
  clear hv hu ha hat hway hbd hp0 ht hIH hDN hHO hMV hST hlen
  have HQ0 := Lib.hid (boxT w (.slice A halls.length d) (.slice B ways.length f) most pl 69 86)
  have HB0 := Lib.hid (below_alloc2 w (.cells #[.slice A halls.length d, .slice B ways.length f, .int .i64 most] 69) (.cells #[.int .i64 (plc pl 0), .int .i64 (plc pl 1), .int .i64 (plc pl 2), .int .i64 (plc pl 3)] 86))
  have HBE := Lib.hid (below_alloc ((w.alloc (.cells #[.slice A halls.length d, .slice B ways.length f, .int .i64 most] 69)).alloc (.cells #[.int .i64 (plc pl 0), .int .i64 (plc pl 1), .int .i64 (plc pl 2), .int .i64 (plc pl 3)] 86)) (.cells #[] 3))
  have HB1 := Lib.hid (below_next0 HB0.out HBE.out)
  have hq1 := HQ0.out.ex HBE.out
  have HQ1 := Lib.hid hq1
  have hc0 := hq1.c0; have hc1 := hq1.c1; have hc2 := hq1.c2; have hs0 := hq1.s 0 (by omega); have hs1 := hq1.s 1 (by omega); have hs2 := hq1.s 2 (by omega); have hs3 := hq1.s 3 (by omega)
  have HEM : Hid (OwN (((w.alloc (.cells #[.slice A halls.length d, .slice B ways.length f, .int .i64 most] 69)).alloc (.cells #[.int .i64 (plc pl 0), .int .i64 (plc pl 1), .int .i64 (plc pl 2), .int .i64 (plc pl 3)] 86)).alloc (.cells #[] 3)) (w.heap.size + 2) (.slice (some ⟨w.heap.size + 1 + 1, 0, none⟩) 0 0) []) := Lib.hid (by simpa using owN_empty ((w.alloc (.cells #[.slice A halls.length d, .slice B ways.length f, .int .i64 most] 69)).alloc (.cells #[.int .i64 (plc pl 0), .int .i64 (plc pl 1), .int .i64 (plc pl 2), .int .i64 (plc pl 3)] 86)) (w.heap.size + 2) (by simp))
  have HIH1 := Lib.hid (HIH.out _ HB1.out)
  clear hq1
  go_enter Try.func83, Try.ntmps83
  go_wp2_with fail
  refine HIH1.out.mono ?_
  rintro e w1 ⟨⟨A1, c1, rfl, hown⟩, hb1⟩
  have HR1 := Lib.hid hown
  have HB2 := Lib.hid (below_next0 HB1.out hb1)
  have hbx := HQ1.out.ex hb1
  have HX1 := Lib.hid hbx
  have HE1 := Lib.hid (HEM.out.ex hb1)
  have HSEP0 : Hid (Sep (.slice A1 halls.length c1) (.slice (some ⟨w.heap.size + 1 + 1, 0, none⟩) 0 0)) := Lib.hid (Ow.sep_new' HEM.out hown (Nat.le_refl _))
  have k1 := hbx.c1
  clear hc0 hc1 hc2 hs0 hs1 hs2 hs3 hown hb1 hbx HIH1 HIH
  go_wp2
  go_loopw [5, 20] (fun ov i wr => ∃ (k : Nat) (A2 : Option Addr) (n2 c2 : Nat), k ≤ ways.length ∧ i = .int .i64 k ∧ ov = .slice A2 n2 c2 ∧ n2 ≤ k ∧ Hid ((movesK halls ways most pl k).length = n2) ∧ Hid (OwN wr (w.heap.size + 2) (.slice A2 n2 c2) (movesK halls ways most pl k)) ∧ Hid (OwI wr w.heap.size (.slice A1 halls.length c1) (cntL halls.length ways pl ways.length)) ∧ Hid (Sep (.slice A1 halls.length c1) (.slice A2 n2 c2)) ∧ Hid (BoxT wr w.heap.size (.slice A halls.length d) (.slice B ways.length f) most pl) ∧ Hid (Below w.heap.size w wr)) (fun _ i _ => ways.length - (intOf i).toNat)
  case atStart => exact ⟨0, _, 0, 0, Nat.zero_le _, rfl, rfl, Nat.le_refl _, Lib.hid rfl, HE1, Lib.hid (HR1.out.mono (by simp; omega)), HSEP0, HX1, HB2⟩
  case round =>
    obtain ⟨k, A2, n2, c2, hk, rfl, rfl, hn2, HL2, HO2, HRM, HSP, HBX, HBB⟩ := hrel
    have hb0 := HBX.out.c0; have hb1 := HBX.out.c1; have hb2 := HBX.out.c2
    have hs0 := HBX.out.s 0 (by omega); have hs1 := HBX.out.s 1 (by omega); have hs2 := HBX.out.s 2 (by omega); have hs3 := HBX.out.s 3 (by omega)
    by_cases hkw : k < ways.length
    · have hki : (k : Int) < (ways.length : Int) := by omega
      have hk4 : (k : Int) < 4 := by omega
      have hk4n : k < 4 := by omega
      have HDK := Lib.hid (HDN.out k hkw wr HBB.out)
      have HNO := Lib.hid (movesK_no (halls := halls) (ways := ways) (most := most) (pl := pl) (k := k))
      have HYE := Lib.hid (movesK_yes (halls := halls) (ways := ways) (most := most) (pl := pl) (k := k))
      have HGT := Lib.hid (mv_gt (halls := halls) (most := most) (pl := pl) hkw)
      have HZE := Lib.hid (mv_zero (halls := halls) (most := most) (pl := pl) hkw)
      have HHL := Lib.hid (mv_hall (halls := halls) (most := most) (pl := pl) hkw)
      have HKQ := Lib.hid (HKP.out k hkw (plc pl k + 1))
      have HHX := HHOX.out k hkw
      rw [HST.out k hkw] at HHX
      unfold stV at HHX
      have HMX := HMVX.out k hkw
      unfold stV at HMX
      have HHO := Lib.hid HHX; have HMV := Lib.hid HMX
      clear HHX HMX
      go_wp2_with fail
      refine HDK.out.mono ?_
      rintro e w2 ⟨rfl, hbw⟩
      have HB3 := Lib.hid (below_next0 HBB.out hbw)
      have HX3 := Lib.hid (HBX.out.ex hbw)
      have HO3 := Lib.hid (HO2.out.ex hbw)
      have HR3 := Lib.hid (HRM.out.ex hbw)
      clear hbw hb0 hb1 hb2 hs0 hs1 hs2 hs3 HDK
      have hbc2 := HX3.out.c2
      have hsk := HX3.out.s k hk4n
      generalize hPP : plc pl k = p at HGT HZE HHL HKQ HHO HMV hsk
      clear hPP
      generalize ways[k] = way at HGT HHL HKQ HHO ⊢
      generalize hH : hallP way (p + 1) = H at HHL HKQ HHO
      clear hH
      by_cases hgt : (way.length : Int) < p
      · have HE := Lib.hid (HNO.out (HGT.out hgt))
        have hgd : decide ((way.length : Int) < p) = true := by simpa using hgt
        have HLL : Hid ((movesK halls ways most pl (k + 1)).length = n2) := Lib.hid (by rw [HE.out]; exact HL2.out)
        have HOO : Hid (OwN w2 (w.heap.size + 2) (.slice A2 n2 c2) (movesK halls ways most pl (k + 1))) := Lib.hid (by rw [HE.out]; exact HO3.out)
        rw [hgd]
        clear hgd
        go_wp2
        go_roundw
        case rel => exact ⟨k + 1, A2, n2, c2, by omega, by go_num, rfl, by omega, HLL, HOO, HR3, HSP, HX3, HB3⟩
        case measure => simp [intOf]; omega
      · have hgd : decide ((way.length : Int) < p) = false := by simpa using hgt
        rw [hgd]
        clear hgd
        by_cases hz : p = 0
        · by_cases hmost : most ≤ allF ways pl ways.length
          · have HE := Lib.hid (HNO.out (HZE.out hz hmost))
            have HLL : Hid ((movesK halls ways most pl (k + 1)).length = n2) := Lib.hid (by rw [HE.out]; exact HL2.out)
            have HOO : Hid (OwN w2 (w.heap.size + 2) (.slice A2 n2 c2) (movesK halls ways most pl (k + 1))) := Lib.hid (by rw [HE.out]; exact HO3.out)
            go_wp2
            go_roundw
            case rel => exact ⟨k + 1, A2, n2, c2, by omega, by go_num, rfl, by omega, HLL, HOO, HR3, HSP, HX3, HB3⟩
            case measure => simp [intOf]; omega
          · have HMB := Lib.hid (HHL.out (by omega) (by intro hx; first | exact absurd hx.2 hmost | omega))
            have hq := HX3.out
            have hd0 := cell_plus hq.c0; have hd1 := cell_plus hq.c1; have hd2 := cell_plus hq.c2; have hd3 := cell_plus (hq.s 0 (by omega)); have hd4 := cell_plus (hq.s 1 (by omega)); have hd5 := cell_plus (hq.s 2 (by omega)); have hd6 := cell_plus (hq.s 3 (by omega))
            have HHW : Hid (∀ e, Below w.heap.size w (plus w2 e)) := Lib.hid fun e => below_next0 HB3.out (below_plus w2 e)
            have HZC : Hid (p = 0 ∨ p ≠ 0) := Lib.hid (by omega)
            clear hq
            go_wp2
            clear hz
            refine wp_region_plus (by kernel_rfl) (by kernel_rfl) ?_
            repeat (go_big_quiet_step ((first | (go_at_call 78; exact plus_below (HMV.out _)) | (go_at_call 106; exact plus_below (HHO.out _ (HHW.out _))))))
            refine wpQuiet_nil ?_
            intro wq hwq
            replace hwq := below_of_plus hwq
            have HB4 := Lib.hid (below_next0 HB3.out hwq)
            have HX4 := Lib.hid (HX3.out.ex hwq)
            have HO4 := Lib.hid (HO3.out.ex hwq)
            have HR4 := Lib.hid (HR3.out.ex hwq)
            clear hd0 hd1 hd2 hd3 hd4 hd5 hd6 hwq hbc2 hsk
            rcases HKQ.out with hH | ⟨h, hh, hH⟩
            · subst hH
              have HE := Lib.hid (HYE.out (by rw [HMB.out]; rfl))
              have HLO := Lib.hid (show w.heap.size + 2 ≤ wq.heap.size from HX4.out.lt)
              go_wp2
              refine wp_region_plus (by kernel_rfl) (by kernel_rfl) ?_
              repeat (go_big_quiet_step ((fail)))
              refine wpQuiet_nil ?_
              intro wq hwq
              replace hwq := below_of_plus hwq
              have HB5 := Lib.hid (below_next0 HB4.out hwq)
              have HX5 := Lib.hid (HX4.out.ex hwq)
              have HO5 := Lib.hid (HO4.out.ex hwq)
              have HR5 := Lib.hid (HR4.out.ex hwq)
              have HLO5 := Lib.hid (Nat.le_trans HLO.out hwq.size)
              clear hwq
              go_wp2_with (first | (at_builtin; refine wpList_appN2 _ rfl (.tmp 59) (.tmp 61) rfl (w.heap.size + 2) (w.heap.size + 2) _ A2 n2 c2 _ _ _ _ rfl HO5.out HL2.out rfl (Below.refl _ _) (Nat.le_refl _) HLO5.out (by omega) HR5.out HSP.out ?_; intro A3 c3 w5 hown3 hsz3 hb3 hds3 hsep3 hg3; rw [← HE.out] at hown3; have HX6 := Lib.hid (HX5.out.exB hb3 (Nat.le_refl _)); have HB6 := Lib.hid (HB5.out.trans (hb3.mono (by omega))); have HO6 := Lib.hid hown3; have HD6 := Lib.hid hds3; have HS6 := Lib.hid hsep3; clear hown3 hsz3 hb3 hds3 hsep3 hg3) | fail)
              go_roundw
              case rel => exact ⟨k + 1, A3, n2 + 1, c3, by omega, by go_num, rfl, by omega, Lib.hid (by rw [HE.out]; simp [HL2.out]), HO6, HD6, HS6, HX6, HB6⟩
              case measure => simp [intOf]; omega
            · subst hH
              have hcl := cntL_len halls.length ways pl ways.length
              have hcc := SlI.op (v := .slice A1 halls.length c1) (xs := cntL halls.length ways pl ways.length) (w := wq) HR4.out.sl
              obtain ⟨A6, c6, hveq6, hla6, ha6⟩ := hcc
              injection hveq6 with hA6 hn6 hc6
              subst hA6 hc6
              obtain ⟨b3, o3, rfl, hbs3, hcc3⟩ := ha6 h (by rw [hcl]; exact hh)
              have hrm := hcc3 h (by rw [hcl]; exact hh)
              rw [cntL_get] at hrm
              obtain ⟨b7, o7, rfl, hbs7, hcc7⟩ := HA.out h hh
              have hrh := (HB4.out.cell (p := ⟨b7, o7 + h, none⟩) hbs7).trans (hcc7 h hh)
              have hf0 := cell_plus HX4.out.c0
              have hrm2 := cell_plus hrm; have hrh2 := cell_plus hrh
              have hhi : (h : Int) < (halls.length : Int) := by omega
              have hh0 : decide ((h : Int) < 0) = false := decide_eq_false (by omega)
              have HMB2 : Hid (mvB halls ways most pl k = decide (cntF ways pl ways.length h < halls[h])) := Lib.hid (by
                rw [HMB.out, if_neg (by omega)]; simp [List.getD_eq_getElem?_getD, hh])
              have HLO := Lib.hid (show w.heap.size + 2 ≤ wq.heap.size from HX4.out.lt)
              clear hcl hn6 hla6 ha6 hcc3 hcc7 hrm hrh
              generalize cntF ways pl ways.length h = x at hrm2 HMB2
              generalize halls[h] = y at hrh2 HMB2
              by_cases hxy : x < y
              · have HE := Lib.hid (HYE.out (by rw [HMB2.out]; simpa using hxy))
                go_wp2
                refine wp_region_plus (by kernel_rfl) (by kernel_rfl) ?_
                repeat (go_big_quiet_step ((fail)))
                refine wpQuiet_nil ?_
                intro wq hwq
                replace hwq := below_of_plus hwq
                have HB5 := Lib.hid (below_next0 HB4.out hwq)
                have HX5 := Lib.hid (HX4.out.ex hwq)
                have HO5 := Lib.hid (HO4.out.ex hwq)
                have HR5 := Lib.hid (HR4.out.ex hwq)
                have HLO5 := Lib.hid (Nat.le_trans HLO.out hwq.size)
                clear hwq hf0 hrm2 hrh2
                go_wp2_with (first | (at_builtin; refine wpList_appN2 _ rfl (.tmp 59) (.tmp 61) rfl (w.heap.size + 2) (w.heap.size + 2) _ A2 n2 c2 _ _ _ _ rfl HO5.out HL2.out rfl (Below.refl _ _) (Nat.le_refl _) HLO5.out (by omega) HR5.out HSP.out ?_; intro A3 c3 w5 hown3 hsz3 hb3 hds3 hsep3 hg3; rw [← HE.out] at hown3; have HX6 := Lib.hid (HX5.out.exB hb3 (Nat.le_refl _)); have HB6 := Lib.hid (HB5.out.trans (hb3.mono (by omega))); have HO6 := Lib.hid hown3; have HD6 := Lib.hid hds3; have HS6 := Lib.hid hsep3; clear hown3 hsz3 hb3 hds3 hsep3 hg3) | fail)
                go_roundw
                case rel => exact ⟨k + 1, A3, n2 + 1, c3, by omega, by go_num, rfl, by omega, Lib.hid (by rw [HE.out]; simp [HL2.out]), HO6, HD6, HS6, HX6, HB6⟩
                case measure => simp [intOf]; omega
              · have HE := Lib.hid (HNO.out (by rw [HMB2.out]; simpa using hxy))
                have hxd : decide (x < y) = false := by simpa using hxy
                have HLL : Hid ((movesK halls ways most pl (k + 1)).length = n2) := Lib.hid (by rw [HE.out]; exact HL2.out)
                have HO4' : Hid (OwN wq (w.heap.size + 2) (.slice A2 n2 c2) (movesK halls ways most pl (k + 1))) := Lib.hid (by rw [HE.out]; exact HO4.out)
                go_wp2
                refine wp_region_plus (by kernel_rfl) (by kernel_rfl) ?_
                repeat (go_big_quiet_step ((fail)))
                refine wpQuiet_nil ?_
                intro wq hwq
                replace hwq := below_of_plus hwq
                have HB5 := Lib.hid (below_next0 HB4.out hwq)
                have HX5 := Lib.hid (HX4.out.ex hwq)
                have HO5 := Lib.hid (HO4'.out.ex hwq)
                have HR5 := Lib.hid (HR4.out.ex hwq)
                clear hwq hf0 hrm2 hrh2
                go_wp2
                go_roundw
                case rel => exact ⟨k + 1, A2, n2, c2, by omega, by go_num, rfl, by omega, HLL, HO5, HR5, HSP, HX5, HB5⟩
                case measure => simp [intOf]; omega
        · have HMB := Lib.hid (HHL.out (by omega) (by intro hx; first | exact absurd hx.1 hz | omega))
          have hq := HX3.out
          have hd0 := cell_plus hq.c0; have hd1 := cell_plus hq.c1; have hd2 := cell_plus hq.c2; have hd3 := cell_plus (hq.s 0 (by omega)); have hd4 := cell_plus (hq.s 1 (by omega)); have hd5 := cell_plus (hq.s 2 (by omega)); have hd6 := cell_plus (hq.s 3 (by omega))
          have HHW : Hid (∀ e, Below w.heap.size w (plus w2 e)) := Lib.hid fun e => below_next0 HB3.out (below_plus w2 e)
          have HZC : Hid (p = 0 ∨ p ≠ 0) := Lib.hid (by omega)
          clear hq
          go_wp2
          clear hz
          refine wp_region_plus (by kernel_rfl) (by kernel_rfl) ?_
          repeat (go_big_quiet_step ((first | (go_at_call 78; exact plus_below (HMV.out _)) | (go_at_call 106; exact plus_below (HHO.out _ (HHW.out _))))))
          refine wpQuiet_nil ?_
          intro wq hwq
          replace hwq := below_of_plus hwq
          have HB4 := Lib.hid (below_next0 HB3.out hwq)
          have HX4 := Lib.hid (HX3.out.ex hwq)
          have HO4 := Lib.hid (HO3.out.ex hwq)
          have HR4 := Lib.hid (HR3.out.ex hwq)
          clear hd0 hd1 hd2 hd3 hd4 hd5 hd6 hwq hbc2 hsk
          rcases HKQ.out with hH | ⟨h, hh, hH⟩
          · subst hH
            have HE := Lib.hid (HYE.out (by rw [HMB.out]; rfl))
            have HLO := Lib.hid (show w.heap.size + 2 ≤ wq.heap.size from HX4.out.lt)
            go_wp2
            refine wp_region_plus (by kernel_rfl) (by kernel_rfl) ?_
            repeat (go_big_quiet_step ((fail)))
            refine wpQuiet_nil ?_
            intro wq hwq
            replace hwq := below_of_plus hwq
            have HB5 := Lib.hid (below_next0 HB4.out hwq)
            have HX5 := Lib.hid (HX4.out.ex hwq)
            have HO5 := Lib.hid (HO4.out.ex hwq)
            have HR5 := Lib.hid (HR4.out.ex hwq)
            have HLO5 := Lib.hid (Nat.le_trans HLO.out hwq.size)
            clear hwq
            go_wp2_with (first | (at_builtin; refine wpList_appN2 _ rfl (.tmp 59) (.tmp 61) rfl (w.heap.size + 2) (w.heap.size + 2) _ A2 n2 c2 _ _ _ _ rfl HO5.out HL2.out rfl (Below.refl _ _) (Nat.le_refl _) HLO5.out (by omega) HR5.out HSP.out ?_; intro A3 c3 w5 hown3 hsz3 hb3 hds3 hsep3 hg3; rw [← HE.out] at hown3; have HX6 := Lib.hid (HX5.out.exB hb3 (Nat.le_refl _)); have HB6 := Lib.hid (HB5.out.trans (hb3.mono (by omega))); have HO6 := Lib.hid hown3; have HD6 := Lib.hid hds3; have HS6 := Lib.hid hsep3; clear hown3 hsz3 hb3 hds3 hsep3 hg3) | fail)
            go_roundw
            case rel => exact ⟨k + 1, A3, n2 + 1, c3, by omega, by go_num, rfl, by omega, Lib.hid (by rw [HE.out]; simp [HL2.out]), HO6, HD6, HS6, HX6, HB6⟩
            case measure => simp [intOf]; omega
          · subst hH
            have hcl := cntL_len halls.length ways pl ways.length
            have hcc := SlI.op (v := .slice A1 halls.length c1) (xs := cntL halls.length ways pl ways.length) (w := wq) HR4.out.sl
            obtain ⟨A6, c6, hveq6, hla6, ha6⟩ := hcc
            injection hveq6 with hA6 hn6 hc6
            subst hA6 hc6
            obtain ⟨b3, o3, rfl, hbs3, hcc3⟩ := ha6 h (by rw [hcl]; exact hh)
            have hrm := hcc3 h (by rw [hcl]; exact hh)
            rw [cntL_get] at hrm
            obtain ⟨b7, o7, rfl, hbs7, hcc7⟩ := HA.out h hh
            have hrh := (HB4.out.cell (p := ⟨b7, o7 + h, none⟩) hbs7).trans (hcc7 h hh)
            have hf0 := cell_plus HX4.out.c0
            have hrm2 := cell_plus hrm; have hrh2 := cell_plus hrh
            have hhi : (h : Int) < (halls.length : Int) := by omega
            have hh0 : decide ((h : Int) < 0) = false := decide_eq_false (by omega)
            have HMB2 : Hid (mvB halls ways most pl k = decide (cntF ways pl ways.length h < halls[h])) := Lib.hid (by
              rw [HMB.out, if_neg (by omega)]; simp [List.getD_eq_getElem?_getD, hh])
            have HLO := Lib.hid (show w.heap.size + 2 ≤ wq.heap.size from HX4.out.lt)
            clear hcl hn6 hla6 ha6 hcc3 hcc7 hrm hrh
            generalize cntF ways pl ways.length h = x at hrm2 HMB2
            generalize halls[h] = y at hrh2 HMB2
            by_cases hxy : x < y
            · have HE := Lib.hid (HYE.out (by rw [HMB2.out]; simpa using hxy))
              go_wp2
              refine wp_region_plus (by kernel_rfl) (by kernel_rfl) ?_
              repeat (go_big_quiet_step ((fail)))
              refine wpQuiet_nil ?_
              intro wq hwq
              replace hwq := below_of_plus hwq
              have HB5 := Lib.hid (below_next0 HB4.out hwq)
              have HX5 := Lib.hid (HX4.out.ex hwq)
              have HO5 := Lib.hid (HO4.out.ex hwq)
              have HR5 := Lib.hid (HR4.out.ex hwq)
              have HLO5 := Lib.hid (Nat.le_trans HLO.out hwq.size)
              clear hwq hf0 hrm2 hrh2
              go_wp2_with (first | (at_builtin; refine wpList_appN2 _ rfl (.tmp 59) (.tmp 61) rfl (w.heap.size + 2) (w.heap.size + 2) _ A2 n2 c2 _ _ _ _ rfl HO5.out HL2.out rfl (Below.refl _ _) (Nat.le_refl _) HLO5.out (by omega) HR5.out HSP.out ?_; intro A3 c3 w5 hown3 hsz3 hb3 hds3 hsep3 hg3; rw [← HE.out] at hown3; have HX6 := Lib.hid (HX5.out.exB hb3 (Nat.le_refl _)); have HB6 := Lib.hid (HB5.out.trans (hb3.mono (by omega))); have HO6 := Lib.hid hown3; have HD6 := Lib.hid hds3; have HS6 := Lib.hid hsep3; clear hown3 hsz3 hb3 hds3 hsep3 hg3) | fail)
              go_roundw
              case rel => exact ⟨k + 1, A3, n2 + 1, c3, by omega, by go_num, rfl, by omega, Lib.hid (by rw [HE.out]; simp [HL2.out]), HO6, HD6, HS6, HX6, HB6⟩
              case measure => simp [intOf]; omega
            · have HE := Lib.hid (HNO.out (by rw [HMB2.out]; simpa using hxy))
              have hxd : decide (x < y) = false := by simpa using hxy
              have HLL : Hid ((movesK halls ways most pl (k + 1)).length = n2) := Lib.hid (by rw [HE.out]; exact HL2.out)
              have HO4' : Hid (OwN wq (w.heap.size + 2) (.slice A2 n2 c2) (movesK halls ways most pl (k + 1))) := Lib.hid (by rw [HE.out]; exact HO4.out)
              go_wp2
              refine wp_region_plus (by kernel_rfl) (by kernel_rfl) ?_
              repeat (go_big_quiet_step ((fail)))
              refine wpQuiet_nil ?_
              intro wq hwq
              replace hwq := below_of_plus hwq
              have HB5 := Lib.hid (below_next0 HB4.out hwq)
              have HX5 := Lib.hid (HX4.out.ex hwq)
              have HO5 := Lib.hid (HO4'.out.ex hwq)
              have HR5 := Lib.hid (HR4.out.ex hwq)
              clear hwq hf0 hrm2 hrh2
              go_wp2
              go_roundw
              case rel => exact ⟨k + 1, A2, n2, c2, by omega, by go_num, rfl, by omega, HLL, HO5, HR5, HSP, HX5, HB5⟩
              case measure => simp [intOf]; omega
    · have hkn : k = ways.length := by omega
      have HR : Hid (n2 = (movesL halls ways most pl).length) := Lib.hid (by rw [HML.out, ← hkn, HL2.out])
      have HF : Hid (OwN wr w.heap.size (.slice A2 n2 c2) (movesL halls ways most pl)) := Lib.hid (by rw [HML.out, ← hkn]; exact HO2.out.mono (by omega))
      subst hkn
      go_wp2
      go_ret
      rw [← HR.out]
      exact ⟨A2, c2, rfl, HF.out, HBB.out⟩
end Go.Proofs.Ytegabdhmfemgkaa
