/-
FnStates returns true for all arguments: the told run goes by the first safe moves to its end, its states are valid and fewer than all that are reached; where there is no deadlock, all that drawn moves reach is safe; the arguments stay as they were. No condition beyond the form's own reach.
-/
import Derived.Test.YtegabdhmfemgkaaRows
import Derived.Test.YtegabdhmfemgkaaLaw
import Derived.Test.YtegabdhmfemgkaaStaB
namespace Go.Proofs.Ytegabdhmfemgkaa
open Go.ChangeShapes Go.WideShapes Go.ChangeAt Go.RowKit Go.Deep Go.Joins
set_option linter.unusedVariables false

theorem next_tells {halls : List Int} {ways : List (List Int)} {s : List Int} (ht : travOk halls ways = true) (h : At halls ways s) : ∃ mv : List Int, nextR halls ways s = (mv, 0) ∧ mv.length ≤ 4 ∧
    (∀ (k : Nat) (hk : k < mv.length), 0 ≤ mv[k] ∧ mv[k] < (ways.length : Int) ∧ ∀ (h0 : 0 < k), mv[k - 1] < mv[k]) ∧
    ∀ (x : Nat) (hx : x < mv.length), ∃ cn : Nat, cn < ways.length ∧ mv[x] = (cn : Int) ∧ At halls ways (nxS s (cn : Int)) ∧ 0 ≤ plc s cn ∧ plc s cn ≤ 6 := by
  obtain ⟨-, -, h4, -⟩ := travOk_at ht
  refine ⟨movesL halls ways 4 s, h.moves ht, ?_, moves_rise, fun x hx => ?_⟩
  · refine Nat.le_trans ?_ h4
    unfold movesL movesK
    rw [List.length_map]
    exact Nat.le_trans (List.length_filter_le _ _) (by simp)
  · have hm := List.getElem_mem hx
    obtain ⟨cn, hcn, he, _⟩ := mem_moves.1 hm
    have hbd := h.bd hcn
    have hl5 := lens5 ht (ways[cn].length) (List.mem_map.2 ⟨_, List.getElem_mem hcn, rfl⟩)
    exact ⟨cn, hcn, he, by rw [← he]; exact h.next ht hm, hbd.1, by omega⟩

set_option maxRecDepth 100000 in
set_option maxHeartbeats 4000000 in
theorem lawStates_any (v0 v1 : Value) (x0 x1 : List Int) (w : World) (h0 : SlB w v0 x0) (h1 : SlB w v1 x1) : Calls Try.prog 6 #[v0, v1] w fun e w' => e = .returned (.bool true) ∧ Below w.heap.size w w' := by
  have HV := Lib.hid h0; have HM := Lib.hid h1
  have HL := Lib.hid (a2Long_any v0 v1 x0 x1 w h0 h1)
  clear h0 h1
  by_cases hl : 3000 < x0.length ∨ 3000 < x1.length
  · rw [show (decide (3000 < x0.length) || decide (3000 < x1.length)) = true by simpa using hl] at HL
    clear hl
    go_enter Try.func6, Try.ntmps6
    go_wp2_with fail
    refine HL.out.mono ?_
    rintro e w1 ⟨rfl, rfl⟩
    go_wp2
    go_ret
    exact ⟨rfl, Below.refl _ _⟩
  · rw [show (decide (3000 < x0.length) || decide (3000 < x1.length)) = false by simp; omega] at HL
    have hlx : x0.length ≤ 1048576 := by omega
    clear hl
    go_enter Try.func6, Try.ntmps6
    go_wp2_with fail
    refine HL.out.mono ?_
    rintro e w1 ⟨rfl, rfl⟩
    clear HL
    go_wp2_with fail
    refine (a2Halls_any v0 x0 _ HV.out hlx).mono ?_
    rintro e w1 ⟨vh, vu, halls, ways, hok, ⟨A, c, rfl⟩, ⟨B, d, rfl⟩, rfl, hg, ht, hb1⟩
    have HOK := Lib.hid hok
    have HH := Lib.hid hg; have HW := Lib.hid ht; have HB1 := Lib.hid hb1; have HM1 := Lib.hid (HM.out.ex hb1)
    obtain ⟨hrr, hrk⟩ := run_tells hok
    obtain ⟨-, -, h4, -⟩ := travOk_at hok
    have HAW := Lib.hid (allW_bd hok)
    have HAS : Hid (∀ (k : Nat) (hk : k < ways.length), allW ways (k + 1) = allW ways k + ((ways[k].length : Int) + 1)) := Lib.hid (fun k hk => allW_succ hk)
    have hcp := count_pos (halls := halls) (ways := ways)
    have HFS := Lib.hid (fun s (h : At halls ways s) hf => h.free hok hf)
    have hall := hrk.all; have hless := hrk.less; have hle := hrk.le
    have HST := Lib.hid hrk.step
    have HIC := Lib.hid (fun W (a : SlI W (.slice A halls.length c) halls) (b : SlII W (.slice B ways.length d) ways) => implCount_any _ _ halls ways W a b)
    rw [show cntR halls ways = (((reachT halls ways 4).length : Int), 0) by unfold cntR; rw [if_pos hok]] at HIC
    have HIF := Lib.hid (fun W (a : SlI W (.slice A halls.length c) halls) (b : SlII W (.slice B ways.length d) ways) => implFree_any _ _ halls ways W a b)
    rw [show ifR halls ways = (!(firstDead halls ways 4).isSome, 0) by unfold ifR; rw [if_pos hok]] at HIF
    have HIR := Lib.hid (fun W (a : SlI W (.slice A halls.length c) halls) (b : SlII W (.slice B ways.length d) ways) => implSafeRun_any _ _ halls ways W a b)
    rw [hrr] at HIR
    dsimp only at HIC HIF HIR
    generalize (runT halls ways 24).2 = RL at hall hle HST HIR
    generalize (reachT halls ways 4).length = n0 at hcp hless HIC
    generalize (firstDead halls ways 4).isSome = fd at HIF HFS
    have HIS : Hid (∀ (s : List Int) (b : Bool) (r : Value) W, safeR halls ways s = (b, 0) → SlI W (.slice A halls.length c) halls → SlII W (.slice B ways.length d) ways → SlI W r s → Calls Try.prog 35 #[.slice A halls.length c, .slice B ways.length d, r] W fun e w' => e = .returned (.tuple #[.bool b, .int .i64 0]) ∧ Below W.heap.size W w') := Lib.hid fun s b r W h a1 a2 a3 => by
      have h9 := implIsSafe_any _ _ r halls ways s W a1 a2 a3
      rw [h] at h9; exact h9
    have HSM : Hid (∀ (s : List Int) (cn : Int) (cs : List Int) (r : Value) W, safeMR halls ways s = (cn :: cs, 0) → SlI W (.slice A halls.length c) halls → SlII W (.slice B ways.length d) ways → SlI W r s → Calls Try.prog 36 #[.slice A halls.length c, .slice B ways.length d, r] W fun e w' => ∃ b m cc : Nat, e = .returned (.tuple #[.slice (some ⟨b, 0, none⟩) m cc, .int .i64 0]) ∧ 0 < m ∧ w'.cell? ⟨b, 0, none⟩ = some (.int .i64 cn) ∧ Below W.heap.size W w') := Lib.hid fun s cn cs r W h a1 a2 a3 => by
      have h9 := implSafeMoves_any _ _ r halls ways s W a1 a2 a3
      rw [h] at h9
      refine h9.mono ?_
      rintro e w' ⟨A', c', rfl, ho, hb⟩
      rcases Ow.form ho with ⟨_, hz, _⟩ | ⟨g', c'', hA, _, _, _⟩
      · simp at hz
      · injection hA with hA hn hc
        subst hA hc
        exact ⟨g', _, c', rfl, by simp, OwI.cell (xs := cn :: cs) (k := 0) ho (by simp), hb⟩
    have HVP : Hid (∀ (s : List Int) (r : Value) W, plOk halls ways s = true → SlI W (.slice A halls.length c) halls → SlII W (.slice B ways.length d) ways → SlI W r s → Calls Try.prog 37 #[.slice A halls.length c, .slice B ways.length d, r] W fun e w' => e = .returned (.bool true) ∧ Below W.heap.size W w') := Lib.hid fun s r W h a1 a2 a3 => by
      have h9 := specValidPlaces_any _ _ r halls ways s W a1 a2 a3
      rw [show placesOk halls ways s = true by unfold placesOk; rw [HOK.out, h]; rfl] at h9; exact h9
    have HNM : Hid (∀ (s mv : List Int) (r : Value) W, nextR halls ways s = (mv, 0) → SlI W (.slice A halls.length c) halls → SlII W (.slice B ways.length d) ways → SlI W r s → Calls Try.prog 38 #[.slice A halls.length c, .slice B ways.length d, r] W fun e w' => ∃ A' c', e = .returned (.tuple #[.slice A' mv.length c', .int .i64 0]) ∧ SlI w' (.slice A' mv.length c') mv ∧ Below W.heap.size W w') := Lib.hid fun s mv r W h a1 a2 a3 => by
      have h9 := implNextMoves_any _ _ r halls ways s W a1 a2 a3
      rw [h] at h9
      exact h9.mono (by rintro e w' ⟨A', c', rfl, ho, hb⟩; exact ⟨A', c', rfl, OwI.sl ho, hb⟩)
    have HPR := Lib.hid (fun i => plOk_run hok i)
    clear hg ht hb1 hok HV HM hrr hrk
    go_wp2_with fail
    refine (HIC.out _ HH.out HW.out).mono ?_
    rintro e w2 ⟨rfl, hb2⟩
    have HB2 := Lib.hid (below_next0 HB1.out hb2); have HH2 := Lib.hid (HH.out.ex hb2); have HW2 := Lib.hid (HW.out.ex hb2); have HM2 := Lib.hid (HM1.out.ex hb2)
    clear hb2 HIC HB1 HH HW HM1
    go_wp2_with fail
    refine (HIF.out _ HH2.out HW2.out).mono ?_
    rintro e w3 ⟨rfl, hb3⟩
    have HB3 := Lib.hid (below_next0 HB2.out hb3); have HH3 := Lib.hid (HH2.out.ex hb3); have HW3 := Lib.hid (HW2.out.ex hb3); have HM3 := Lib.hid (HM2.out.ex hb3)
    clear hb3 HIF HB2 HH2 HW2 HM2
    go_wp2_with fail
    refine (HIR.out _ HH3.out HW3.out).mono ?_
    rintro e w4 ⟨A4, c4, rfl, ho4, hb4⟩
    have HB4 := Lib.hid (below_next0 HB3.out hb4); have HH4 := Lib.hid (HH3.out.ex hb4); have HW4 := Lib.hid (HW3.out.ex hb4); have HM4 := Lib.hid (HM3.out.ex hb4); have HRL : Hid (SlI w4 (.slice A4 RL.length c4) RL) := Lib.hid (OwI.sl ho4)
    clear hb4 ho4 HIR HB3 HH3 HW3 HM3
    have hn1 : ¬ ((n0 : Int) < 1) := by omega
    obtain ⟨A', c', hv9, _, hWc⟩ := HW4.out.op
    injection hv9 with hv9 hvn hv8
    clear hvn
    subst hv9 hv8
    have HWC := Lib.hid hWc
    clear hWc
    obtain ⟨A', c', hv9, _, hRc⟩ := HRL.out.op
    injection hv9 with hv9 hvn hv8
    clear hvn
    subst hv9 hv8
    have HRC := Lib.hid hRc
    clear hRc
    go_wp2_with (first | (at_make; refine wpList_make1 w4 rfl (.tmp 67) (.tmp 67) _ rfl w4.heap.size 2 (.int .i64 0) 8 Try.underlying31 infoI64 rfl .i64 .i64 ways.length rfl rfl (by omega) (by omega) (Nat.le_refl _) ?_; intro w5 hown hb5 hsz; have HPL := Lib.hid (PlRow.made hown); have HQ5 := Lib.hid hb5; clear hown hb5 hsz) | fail)
    go_loopw [14, 15] (fun v14 v15 wr => ∃ k : Nat, v14 = .int .i64 (allW ways k) ∧ v15 = .int .i64 k ∧ k ≤ ways.length ∧ w5 = wr) (fun _ v15 _ => ways.length - (intOf v15).toNat)
    case atStart => exact ⟨0, by simp [allW], rfl, Nat.zero_le _, rfl⟩
    case round =>
      obtain ⟨k, rfl, rfl, hk, rfl⟩ := hrel
      by_cases hlt : k < ways.length
      · have hki : (k : Int) < (ways.length : Int) := by omega
        obtain ⟨b, o, A', c', hAB, hbs, hcl, -⟩ := HWC.out k hlt
        have hx := (HQ5.out.cell (p := ⟨b, o + k, none⟩) hbs).trans hcl
        have hsum := HAS.out k hlt
        have hbd := HAW.out k hk; have hbd2 := HAW.out (k + 1) (by omega)
        rw [hsum] at hbd2
        have HSU := Lib.hid hsum
        clear hsum hcl
        generalize ways[k].length = m at hx HSU hbd2
        generalize allW ways k = sa at HSU hbd hbd2 ⊢
        obtain ⟨hs0, hs1⟩ := hbd
        obtain ⟨ht0, ht1⟩ := hbd2
        subst hAB
        go_wp2
        go_roundw
        case rel => exact ⟨k + 1, by rw [HSU.out], by go_num, by omega, by first | rfl | trivial⟩
        case measure => simp [intOf]; omega
      · have hki : ¬ ((k : Int) < (ways.length : Int)) := by omega
        obtain rfl : k = ways.length := by omega
        have hl2 : ¬ ((n0 : Int) ≤ (RL.length : Int)) := by omega
        have hl3 : ¬ (n0 ≤ RL.length) := by omega
        rw [← hall]
        clear hall hless
        go_wp2
        go_loopw [16] (fun v16 wr => ∃ i : Nat, v16 = .int .i64 i ∧ i ≤ RL.length ∧ Hid (PlRow wr w4.heap.size w4.heap.size ways.length (runT halls ways i).1) ∧ Hid (Below w4.heap.size w4 wr)) (fun v16 _ => RL.length - (intOf v16).toNat)
        case atStart => exact ⟨0, rfl, Nat.zero_le _, HPL, HQ5⟩
        case round =>
          obtain ⟨i, rfl, hi, HP, HQ⟩ := hrel
          by_cases hlt : i < RL.length
          · have hki2 : (i : Int) < (RL.length : Int) := by omega
            obtain ⟨cn, cs, hcn, hrl, hsr, hsm, hnx⟩ := HST.out i hlt
            have hgi : RL[i] = (cn : Int) := by
              rw [List.getElem?_eq_getElem hlt] at hrl
              exact Option.some.inj hrl
            obtain ⟨br, orr, hAR, hbr, hcr0⟩ := HRC.out i hlt
            have hcr := hcr0 i hlt
            rw [hgi] at hcr
            have HNX := Lib.hid hnx
            have HHr := Lib.hid (HH4.out.ex HQ.out); have HWr := Lib.hid (HW4.out.ex HQ.out)
            have HC1 := Lib.hid (HIS.out _ true _ wr hsr HHr.out HWr.out HP.out.sl)
            have HCM := Lib.hid (fun W (hW : Below wr.heap.size wr W) => HSM.out _ cn cs (.slice (some ⟨w4.heap.size, 0, none⟩) ways.length ways.length) W hsm (HHr.out.ex hW) (HWr.out.ex hW) (HP.out.sl.ex hW))
            have hpb := (plOk_good (HPR.out i)).at_.2 cn hcn
            have hl5 := lens5 HOK.out (ways[cn].length) (List.mem_map.2 ⟨_, List.getElem_mem hcn, rfl⟩)
            have HPN := Lib.hid (HPR.out (i + 1))
            clear hrl hsr hsm hnx hgi hcr0
            subst hAR
            generalize (runT halls ways i).1 = s at HP HC1 HCM hpb HNX
            go_wp2_with fail
            refine HC1.out.mono ?_
            rintro e wa ⟨rfl, hba⟩
            have HCM2 := Lib.hid (HCM.out wa hba)
            have HQa := Lib.hid (below_next0 HQ.out hba); have HPa := Lib.hid (HP.out.ex hba)
            clear hba HC1 HCM HQ HP HHr HWr
            go_wp2_with fail
            refine HCM2.out.mono ?_
            rintro e wb ⟨bm, mm, cc, rfl, hmm, hmc, hbb⟩
            have HQb := Lib.hid (below_next0 HQa.out hbb); have HPb := Lib.hid (HPa.out.ex hbb)
            have hrx := (HQb.out.cell (p := ⟨br, orr + i, none⟩) hbr).trans hcr
            clear hbb HCM2 HQa HPa
            have hmz : ((mm : Int) == 0) = false := beq_eq_false_iff_ne.2 (by omega)
            have hmi : 0 < (mm : Int) := by omega
            have hd1 : decide ((cn : Int) < 0) = false := decide_eq_false (by omega)
            have hd2 : ¬ (ways.length ≤ cn) := by omega
            have hd3 : decide ((ways.length : Int) ≤ (cn : Int)) = false := decide_eq_false (by omega)
            have hki3 : (cn : Int) < (ways.length : Int) := by omega
            have hne : ((cn : Int) != (cn : Int)) = false := by simp
            go_wp2
            go_quiet (fail)
            go_upto_region 24 with fail
            refine wp_gen ?_
            intro wc hwc
            have HPc : Hid (PlRow wc w4.heap.size w4.heap.size ways.length s) := Lib.hid (by rw [hwc]; exact HPb.out.drewN _)
            have HQc : Hid (Below w4.heap.size w4 wc) := Lib.hid (by rw [hwc]; exact below_drewN HQb.out _)
            clear hwc hrx hmc HPb HQb
            have hrx := (HQc.out.cell (p := ⟨br, orr + i, none⟩) hbr).trans hcr
            have hpc := HPc.out.cell hcn; have hfc := HPc.out.free cn
            have HN := Lib.hid (HPc.out.inc (c := cn))
            rw [← HNX.out] at HN
            have HQN := Lib.hid (HQc.out.setCell (p := ⟨w4.heap.size, cn, none⟩) (Nat.le_refl _) (.int .i64 (plc s cn + 1)))
            have HVc := Lib.hid (HVP.out _ _ _ HPN.out (HH4.out.ex HQN.out) (HW4.out.ex HQN.out) HN.out.sl)
            generalize plc s cn = pp at hpc hpb HN HQN HVc
            obtain ⟨hp0, hp1⟩ := hpb
            have hp2 : pp ≤ 6 := by omega
            clear HNX HPN hp1 hl5
            go_wp2_with fail
            refine HVc.out.mono ?_
            rintro e wd ⟨rfl, hbd⟩
            have HNd := Lib.hid (HN.out.ex hbd); have HQd := Lib.hid (below_next0 HQN.out hbd)
            clear hbd HVc HN HQN HPc HQc hpc hfc hrx
            go_wp2
            go_roundw
            case rel => exact ⟨i + 1, by go_num, by omega, HNd, HQd⟩
            case measure => simp [intOf]; omega
          · have hki2 : ¬ ((i : Int) < (RL.length : Int)) := by omega
            obtain ⟨wz, hwz⟩ : ∃ x : World, x = wr := ⟨wr, rfl⟩
            subst hwz
            have HHr := Lib.hid (HH4.out.ex HQ.out); have HWr := Lib.hid (HW4.out.ex HQ.out); have HMr := Lib.hid (HM4.out.ex HQ.out)
            have HBr := Lib.hid (below_next0 HB4.out HQ.out)
            clear HP HST HRC HWC HRL HH4 HW4 HM4 HB4 HQ HPL HQ5 HSM HVP HPR
            cases fd with
            | false =>
              go_wp2_with (first | (at_make; refine wpList_make1 wz rfl (.tmp 168) (.tmp 168) _ rfl wz.heap.size 2 (.int .i64 0) 8 Try.underlying31 infoI64 rfl .i64 .i64 ways.length rfl rfl (by omega) (by omega) (Nat.le_refl _) ?_; intro w7 hown hb7 hsz; have HPL := Lib.hid (PlRow.made hown); have HQ7 := Lib.hid hb7; clear hown hb7 hsz) | fail)
              go_loopw [21] (fun v21 wt => ∃ (k : Nat) (s : List Int), v21 = .int .i64 k ∧ k ≤ 8 ∧ Hid (At halls ways s) ∧ Hid (PlRow wt wz.heap.size wz.heap.size ways.length s) ∧ Hid (Below wz.heap.size wz wt)) (fun v21 _ => 8 - (intOf v21).toNat)
              case atStart => exact ⟨0, _, rfl, by omega, Lib.hid (at_zero HOK.out), HPL, HQ7⟩
              case round =>
                obtain ⟨wt, hwt⟩ : ∃ x : World, x = wr := ⟨wr, rfl⟩
                subst hwt
                obtain ⟨k, s, rfl, hk8, HAT, HP, HQ⟩ := hrel
                by_cases hlt8 : k < 8
                · have hk8i : (k : Int) < 8 := by omega
                  have HHt := Lib.hid (HHr.out.ex HQ.out); have HWt := Lib.hid (HWr.out.ex HQ.out); have HMt := Lib.hid (HMr.out.ex HQ.out)
                  obtain ⟨mv, hnr, hml, hri, hne⟩ := next_tells HOK.out HAT.out
                  have HC1 := Lib.hid (HNM.out s mv _ wt hnr HHt.out HWt.out HP.out.sl)
                  have HRI := Lib.hid hri; have HNE := Lib.hid hne
                  clear hnr hri hne
                  go_wp2_with fail
                  refine HC1.out.mono ?_
                  rintro e wa ⟨A', c', rfl, hsl, hba⟩
                  have HSL := Lib.hid hsl
                  have HQa := Lib.hid (below_next0 HQ.out hba); have HPa := Lib.hid (HP.out.ex hba)
                  clear hsl hba HC1 HQ HP HHt HWt HMt
                  go_wp2_with fail
                  refine (a2Rises_any _ mv _ _ HSL.out HRI.out).mono ?_
                  rintro e wb ⟨rfl, hbb⟩
                  have HQb := Lib.hid (below_next0 HQa.out hbb); have HPb := Lib.hid (HPa.out.ex hbb); have HSB := Lib.hid (HSL.out.ex hbb); have HMb := Lib.hid (HMr.out.ex HQb.out)
                  clear hbb HQa HPa HSL HRI
                  by_cases hz : mv.length = 0
                  · have hzb : ((mv.length : Int) == 0) = true := beq_iff_eq.2 (by omega)
                    go_wp2
                    go_ret
                    exact ⟨rfl, below_next0 HBr.out HQb.out⟩
                  · have hzb : ((mv.length : Int) == 0) = false := beq_eq_false_iff_ne.2 (by omega)
                    have hm1 : 1 ≤ (mv.length : Int) := by omega
                    go_wp2_with fail
                    refine (a2At_any v1 x1 k (mv.length : Int) _ HMb.out (by omega) hm1 (by omega)).mono ?_
                    rintro e wA ⟨y, hy0, hy1, rfl, rfl⟩
                    obtain ⟨x, rfl⟩ := Int.eq_ofNat_of_zero_le hy0
                    have hxl : x < mv.length := by omega
                    obtain ⟨cn, hcn, hmx, hat, hp0, hp1⟩ := HNE.out x hxl
                    have HAN := Lib.hid hat
                    obtain ⟨A9, c9, hv9, _, hSc⟩ := HSB.out.op
                    injection hv9 with hv9 hvn hv8
                    clear hvn
                    subst hv9 hv8
                    obtain ⟨bm, om, hAM, hbm, hcm⟩ := hSc x hxl
                    have hmc := hcm x hxl
                    rw [hmx] at hmc
                    have hpc := HPb.out.cell hcn; have hfc := HPb.out.free cn
                    have HN := Lib.hid (HPb.out.inc (c := cn))
                    have HQN := Lib.hid (HQb.out.setCell (p := ⟨wz.heap.size, cn, none⟩) (Nat.le_refl _) (.int .i64 (plc s cn + 1)))
                    have HSA := Lib.hid (hat.safe HOK.out)
                    have HFR := Lib.hid (HFS.out _ hat)
                    have HVc := Lib.hid (HIS.out _ _ _ _ HSA.out (HHr.out.ex HQN.out) (HWr.out.ex HQN.out) HN.out.sl)
                    generalize plc s cn = pp at hpc hp0 hp1 HN HQN HVc
                    generalize safeT halls ways (nxS s (cn : Int)) = sb at HVc HFR HSA
                    have hki3 : (cn : Int) < (ways.length : Int) := by omega
                    clear hSc hcm hmx hat HNE HSA HPb HQb HSB HMb
                    subst hAM
                    go_wp2_with fail
                    refine HVc.out.mono ?_
                    rintro e wd ⟨rfl, hbd⟩
                    have HNd := Lib.hid (HN.out.ex hbd); have HQd := Lib.hid (below_next0 HQN.out hbd)
                    clear hbd HVc HN HQN hpc hfc hmc
                    obtain rfl : sb = true := HFR.out (by first | rfl | trivial)
                    go_wp2
                    go_roundw
                    case rel => exact ⟨k + 1, _, by go_num, by omega, HAN, HNd, HQd⟩
                    case measure => simp [intOf]; omega
                · have hk8i : ¬ ((k : Int) < 8) := by omega
                  go_wp2
                  go_ret
                  exact ⟨rfl, below_next0 HBr.out HQ.out⟩
            | true =>
              go_wp2_with (first | (at_make; refine wpList_make1 wz rfl (.tmp 168) (.tmp 168) _ rfl wz.heap.size 2 (.int .i64 0) 8 Try.underlying31 infoI64 rfl .i64 .i64 ways.length rfl rfl (by omega) (by omega) (Nat.le_refl _) ?_; intro w7 hown hb7 hsz; have HPL := Lib.hid (PlRow.made hown); have HQ7 := Lib.hid hb7; clear hown hb7 hsz) | fail)
              go_loopw [21] (fun v21 wt => ∃ (k : Nat) (s : List Int), v21 = .int .i64 k ∧ k ≤ 8 ∧ Hid (At halls ways s) ∧ Hid (PlRow wt wz.heap.size wz.heap.size ways.length s) ∧ Hid (Below wz.heap.size wz wt)) (fun v21 _ => 8 - (intOf v21).toNat)
              case atStart => exact ⟨0, _, rfl, by omega, Lib.hid (at_zero HOK.out), HPL, HQ7⟩
              case round =>
                obtain ⟨wt, hwt⟩ : ∃ x : World, x = wr := ⟨wr, rfl⟩
                subst hwt
                obtain ⟨k, s, rfl, hk8, HAT, HP, HQ⟩ := hrel
                by_cases hlt8 : k < 8
                · have hk8i : (k : Int) < 8 := by omega
                  have HHt := Lib.hid (HHr.out.ex HQ.out); have HWt := Lib.hid (HWr.out.ex HQ.out); have HMt := Lib.hid (HMr.out.ex HQ.out)
                  obtain ⟨mv, hnr, hml, hri, hne⟩ := next_tells HOK.out HAT.out
                  have HC1 := Lib.hid (HNM.out s mv _ wt hnr HHt.out HWt.out HP.out.sl)
                  have HRI := Lib.hid hri; have HNE := Lib.hid hne
                  clear hnr hri hne
                  go_wp2_with fail
                  refine HC1.out.mono ?_
                  rintro e wa ⟨A', c', rfl, hsl, hba⟩
                  have HSL := Lib.hid hsl
                  have HQa := Lib.hid (below_next0 HQ.out hba); have HPa := Lib.hid (HP.out.ex hba)
                  clear hsl hba HC1 HQ HP HHt HWt HMt
                  go_wp2_with fail
                  refine (a2Rises_any _ mv _ _ HSL.out HRI.out).mono ?_
                  rintro e wb ⟨rfl, hbb⟩
                  have HQb := Lib.hid (below_next0 HQa.out hbb); have HPb := Lib.hid (HPa.out.ex hbb); have HSB := Lib.hid (HSL.out.ex hbb); have HMb := Lib.hid (HMr.out.ex HQb.out)
                  clear hbb HQa HPa HSL HRI
                  by_cases hz : mv.length = 0
                  · have hzb : ((mv.length : Int) == 0) = true := beq_iff_eq.2 (by omega)
                    go_wp2
                    go_ret
                    exact ⟨rfl, below_next0 HBr.out HQb.out⟩
                  · have hzb : ((mv.length : Int) == 0) = false := beq_eq_false_iff_ne.2 (by omega)
                    have hm1 : 1 ≤ (mv.length : Int) := by omega
                    go_wp2_with fail
                    refine (a2At_any v1 x1 k (mv.length : Int) _ HMb.out (by omega) hm1 (by omega)).mono ?_
                    rintro e wA ⟨y, hy0, hy1, rfl, rfl⟩
                    obtain ⟨x, rfl⟩ := Int.eq_ofNat_of_zero_le hy0
                    have hxl : x < mv.length := by omega
                    obtain ⟨cn, hcn, hmx, hat, hp0, hp1⟩ := HNE.out x hxl
                    have HAN := Lib.hid hat
                    obtain ⟨A9, c9, hv9, _, hSc⟩ := HSB.out.op
                    injection hv9 with hv9 hvn hv8
                    clear hvn
                    subst hv9 hv8
                    obtain ⟨bm, om, hAM, hbm, hcm⟩ := hSc x hxl
                    have hmc := hcm x hxl
                    rw [hmx] at hmc
                    have hpc := HPb.out.cell hcn; have hfc := HPb.out.free cn
                    have HN := Lib.hid (HPb.out.inc (c := cn))
                    have HQN := Lib.hid (HQb.out.setCell (p := ⟨wz.heap.size, cn, none⟩) (Nat.le_refl _) (.int .i64 (plc s cn + 1)))
                    have HSA := Lib.hid (hat.safe HOK.out)
                    have HFR := Lib.hid (HFS.out _ hat)
                    have HVc := Lib.hid (HIS.out _ _ _ _ HSA.out (HHr.out.ex HQN.out) (HWr.out.ex HQN.out) HN.out.sl)
                    generalize plc s cn = pp at hpc hp0 hp1 HN HQN HVc
                    generalize safeT halls ways (nxS s (cn : Int)) = sb at HVc HFR HSA
                    have hki3 : (cn : Int) < (ways.length : Int) := by omega
                    clear hSc hcm hmx hat HNE HSA HPb HQb HSB HMb
                    subst hAM
                    go_wp2_with fail
                    refine HVc.out.mono ?_
                    rintro e wd ⟨rfl, hbd⟩
                    have HNd := Lib.hid (HN.out.ex hbd); have HQd := Lib.hid (below_next0 HQN.out hbd)
                    clear hbd HVc HN HQN hpc hfc hmc
                    go_wp2
                    go_roundw
                    case rel => exact ⟨k + 1, _, by go_num, by omega, HAN, HNd, HQd⟩
                    case measure => simp [intOf]; omega
                · have hk8i : ¬ ((k : Int) < 8) := by omega
                  go_wp2
                  go_ret
                  exact ⟨rfl, below_next0 HBr.out HQ.out⟩

set_option maxRecDepth 100000 in
theorem states_lifted (os : Os) (started : os.Started) (H : Type) (enc : TypeId × Value → H) :
    ReturnsInHanded {} Try.checked os 6 .any (Rows.fnStatesSpec.pre6 enc Try.checked.prog Try.f6 Rows.fnStatesRow.domain false) (Rows.fnStatesSpec.post enc Try.checked.prog Try.f6 false true false false) := by
  refine law_lifted os started H enc (by kernel_rfl) Try.func6
    (ChangeSpec.witness6 (enc := enc) (C := Try.checked) false ⟨#[], #[.slice none 0 0, .slice none 0 0], []⟩ 8 (by kernel_rfl) (by kernel_rfl) (by kernel_rfl) (by kernel_rfl))
    rfl rfl rfl (by rw [Try.params6]; intro t ht; simp only [List.mem_cons, List.not_mem_nil, or_false] at ht; rcases ht with rfl | rfl <;> exact ⟨by kernel_rfl, of_decide_eq_true (by kernel_rfl)⟩)
    (fun ds hl => by match ds, hl with | [d0, d1], _ => exact ⟨rfl, rfl, rfl⟩) ?_
  intro W base args ds p hval hA hlt hsz
  rw [Try.params6] at hA hval hsz
  obtain ⟨v0, vs0, d0, ds0, p0, q0, hargs, rfl, rfl, h0, r0⟩ := trodAll_cons hA
  obtain ⟨v1, vs1, d1, ds1, p1, q1, rfl, rfl, rfl, h1, r1⟩ := trodAll_cons r0
  obtain ⟨rfl, rfl, rfl⟩ := trodAll_nil r1
  obtain rfl : args = #[v0, v1] := by cases args; simp_all
  obtain ⟨x0, hx0⟩ := argB Try.underlying29 Try.underlying5 (by kernel_rfl) (by kernel_rfl) (hval 0 _ _ rfl rfl) h0 (weight_arg hsz (j := 0) rfl rfl)
  obtain ⟨x1, hx1⟩ := argB Try.underlying29 Try.underlying5 (by kernel_rfl) (by kernel_rfl) (hval 1 _ _ rfl rfl) h1 (weight_arg hsz (j := 1) rfl rfl)
  exact lawStates_any _ _ x0 x1 W hx0 hx1

theorem states_holds : Rows.FnStatesSaid :=
  OpenClaim.holds_of_wide 6 Try.f6 rfl rfl rfl rfl rfl rfl rfl ⟨rfl, rfl, rfl, rfl, rfl⟩ rfl rfl rfl rfl rfl (by kernel_rfl) Try.func6 (by kernel_rfl)
    (of_decide_eq_true (by kernel_rfl)) (by unfold Func.isWrapper; first | (rw [if_pos (by decide +kernel)]; kernel_rfl) | (rw [if_neg (by decide +kernel)]; exact ⟨rfl, rfl⟩))
    (fun os started H enc _ => states_lifted os started H enc)
#print axioms states_holds
end Go.Proofs.Ytegabdhmfemgkaa
