/-
l14Grow of the reference: the search for a follower that leaves fixed readings alone. Condition: valid readings, the rows are rows of the caller's own.
-/
import Derived.Test.YtlgeddbgbcineaaFnd
import Derived.Test.YtlgeddbgbcineaaSensF
namespace Go.Proofs.Ytlgeddbgbcineaa
open Go.RowKit
set_option linter.unusedVariables false

set_option maxRecDepth 100000 in
set_option maxHeartbeats 4000000 in
theorem l14Grow_any (v u : Value) (gs : List (List Int)) (ts : List Reading) (w0 : World) (hv : SlII w0 v gs) (hu : SlReading w0 u ts) (hok : readsOk gs ts = true) (fx : Nat → Bool) (n : Nat) (hn : n = ts.length) (lo g1 g2 g3 : Nat) (hlo : w0.heap.size ≤ lo) (hg2 : ¬ R2 g1 g3 g2) :
    ∀ (fuel a : Nat) (of : List Int) (tr : List Bool) (w : World),
    Below w0.heap.size w0 w → Two w lo g1 g3 n of tr → (g2 < w.heap.size ∧ ∀ j, j < n → w.cell? ⟨g2, j, none⟩ = some (.bool (fx j))) → a < n → Ed (edG gs ts) n of → untr tr < fuel →
    Calls Try.prog 84 #[v, u, .int .i64 (a : Int), .slice (some ⟨g1, 0, none⟩) n n, .slice (some ⟨g2, 0, none⟩) n n, .slice (some ⟨g3, 0, none⟩) n n] w fun e w' =>
      e = .returned (.bool (growK (edG gs ts) fx n fuel a of tr).1) ∧ Two w' lo g1 g3 n (growK (edG gs ts) fx n fuel a of tr).2.1 (growK (edG gs ts) fx n fuel a of tr).2.2 ∧ GrS (R2 g1 g3) w w'
  | 0, a, of, tr, w, _, _, _, _, _, hf => absurd hf (Nat.not_lt_zero _)
  | fuel + 1, a, of, tr, w, hb, ht, hfx, ha, he, hf => by
    have IH := l14Grow_any v u gs ts w0 hv hu hok fx n hn lo g1 g2 g3 hlo hg2 fuel
    have HIH := Lib.hid IH
    clear IH
    obtain ⟨Ag, cg, rfl, hlg, _⟩ := hv.op
    obtain ⟨Ar, cr, rfl, hlr, har⟩ := hu.op
    obtain ⟨hgk, h14, hfit⟩ := readsOk_ok hok
    have HV := Lib.hid hv; have HAR := Lib.hid har
    have HFIT := Lib.hid hfit; have HGK := Lib.hid hgk
    have HGO : Hid (∀ (r : Nat) (of : List Int) (tr : List Bool), r < n → of.length = n → tr.length = n → Ed (edG gs ts) n of → GOut (edG gs ts) n r of tr (growK (edG gs ts) fx n fuel r of tr)) := Lib.hid (fun r of tr hr h1 h2 h3 => grow_out (edG gs ts) fx n fuel r of tr hr h1 h2 h3)
    have HMAY : Hid (∀ W (i j : Nat) (hi : i < ts.length) (hj : j < ts.length), Below w0.heap.size w0 W → Calls Try.prog 60 #[.slice Ag gs.length cg, .agg #[.int .i64 ts[i].sensor, .int .i64 ts[i].tick], .agg #[.int .i64 ts[j].sensor, .int .i64 ts[j].tick]] W fun e w' => e = .returned (.bool (edG gs ts i j)) ∧ Below W.heap.size W w') :=
      Lib.hid fun W i j hi hj hW => by rw [edG_at hi hj]; exact l14May_any _ gs _ _ _ _ W (HV.out.ex hW) HGK.out (HFIT.out _ (List.getElem_mem hi)) (HFIT.out _ (List.getElem_mem hj))
    have hai : (a : Int) < (ts.length : Int) := by omega
    have halt : a < ts.length := by omega
    obtain ⟨b1, o1, rfl, hb1, hc0, hc1⟩ := HAR.out a halt
    have HCA : Hid (∀ W, Below w0.heap.size w0 W → W.cell? ⟨b1, o1 + a * 2, none⟩ = some (.int .i64 ts[a].sensor) ∧ W.cell? ⟨b1, o1 + a * 2 + 1, none⟩ = some (.int .i64 ts[a].tick)) := Lib.hid (fun W hW => ⟨(hW.cell (p := ⟨b1, o1 + a * 2, none⟩) hb1).trans hc0, (hW.cell (p := ⟨b1, o1 + a * 2 + 1, none⟩) hb1).trans hc1⟩)
    have HCB : Hid (∀ W, Below w0.heap.size w0 W → ∀ j (hj : j < ts.length), W.cell? ⟨b1, o1 + j * 2, none⟩ = some (.int .i64 ts[j].sensor) ∧ W.cell? ⟨b1, o1 + j * 2 + 1, none⟩ = some (.int .i64 ts[j].tick)) := Lib.hid (fun W hW j hj => by
      obtain ⟨b2, o2, hA, hb2, hd0, hd1⟩ := HAR.out j hj
      injection hA with hA
      injection hA with h8 h9 _
      subst h8 h9
      exact ⟨(hW.cell (p := ⟨b1, o1 + j * 2, none⟩) hb2).trans hd0, (hW.cell (p := ⟨b1, o1 + j * 2 + 1, none⟩) hb2).trans hd1⟩)
    have hg1 := ht.g1lo; have hg3 := ht.g2lo
    obtain ⟨hg1a, hg1b⟩ := hg1
    obtain ⟨hg3a, hg3b⟩ := hg3
    obtain ⟨hg2b, hfc⟩ := hfx
    have HQ : Hid (growK (edG gs ts) fx n (fuel + 1) a of tr = scanK (edG gs ts) fx n (growK (edG gs ts) fx n fuel) a n of tr) := Lib.hid rfl
    have HBB : Hid (∀ W, GrS (R2 g1 g3) w W → Below w0.heap.size w0 W) := Lib.hid (fun W hG => hb.trans (GrS.below hG (fun k _ hk => by rcases hk with rfl | rfl <;> omega) hb.size))
    have HFX : Hid (∀ W, GrS (R2 g1 g3) w W → g2 < W.heap.size ∧ ∀ j, j < n → W.cell? ⟨g2, j, none⟩ = some (.bool (fx j))) := Lib.hid (fun W hG => ⟨Nat.lt_of_lt_of_le hg2b hG.size, fun j hj => (hG.cell hg2b hg2).trans (hfc j hj)⟩)
    generalize hqq : growK (edG gs ts) fx n (fuel + 1) a of tr = Q at HQ
    have HT := Lib.hid ht
    have HED := Lib.hid he; have HUN : Hid (untr tr ≤ fuel) := Lib.hid (by omega)
    have HNL := Lib.hid hn
    clear hqq har hc0 hc1 hb ht hv hu hfit hgk hok hfc he hf hn
    generalize hE0 : edG gs ts = E at HQ HED HGO HIH HMAY
    clear hE0
    go_enter Try.func84, Try.ntmps84
    go_wp2
    go_loopw [13] (fun v13 wr => ∃ (k : Nat) (of' : List Int) (tr' : List Bool), v13 = .int .i64 k ∧ k ≤ n ∧ Hid (scanK E fx n (growK E fx n fuel) a (n - k) of' tr' = Q) ∧ Hid (Ed E n of') ∧ Hid (untr tr' ≤ fuel) ∧ Hid (Two wr lo g1 g3 n of' tr') ∧ Hid (GrS (R2 g1 g3) w wr)) (fun v13 _ => n - (intOf v13).toNat)
    case atStart => exact ⟨0, of, tr, rfl, by omega, Lib.hid (by rw [HQ.out]; rfl), HED, HUN, HT, Lib.hid (GrS.refl _ _)⟩
    case round =>
      clear HT HQ HED HUN
      obtain ⟨k, of', tr', rfl, hk, HS, HED, HUN, HT, HG⟩ := hrel
      have HBW := Lib.hid (HBB.out wr HG.out)
      by_cases hlt : k < n
      · have hki : (k : Int) < (ts.length : Int) := by have := HNL.out; omega
        have hki2 : (k : Int) < (n : Int) := by omega
        have hlt2 : k < ts.length := by have := HNL.out; omega
        have HSS := Lib.hid (scan_at (E := E) (fx := fx) (rec := growK E fx n fuel) (a := a) (of := of') (tr := tr') hlt)
        have hxt := HT.out.tc hlt
        have hxp := cell_plus hxt
        have hft := HT.out.tf k
        cases hT : bAt tr' k with
        | true =>
          rw [hT] at hxt hxp
          have HN := Lib.hid (show scanK E fx n (growK E fx n fuel) a (n - (k + 1)) of' tr' = Q by rw [← HS.out, HSS.out, if_pos (.inr hT)])
          clear hT hft
          go_wp2
          refine wp_region_plus (by kernel_rfl) (by kernel_rfl) ?_
          repeat (go_big_quiet_step ((fail)))
          refine wpQuiet_nil ?_
          intro wq hwq
          replace hwq := below_of_plus hwq
          clear hxt hxp
          have HTQ := Lib.hid (HT.out.ex hwq)
          have HGQ : Hid (GrS (R2 g1 g3) w wq) := Lib.hid (HG.out.trans (GrS.ofBelow hwq))
          go_wp2
          go_roundw
          case rel => exact ⟨k + 1, of', tr', by go_num, by omega, HN, HED, HUN, HTQ, HGQ⟩
          case measure => simp [intOf]; omega
        | false =>
          rw [hT] at hxt hxp
          have HM2 := Lib.hid (fun e => plus_below (HMAY.out (plus wr e) a k halt hlt2 (below_next0 HBW.out (below_plus wr e))))
          have hp0 := cell_plus (HCA.out wr HBW.out).1; have hp1 := cell_plus (HCA.out wr HBW.out).2
          have hq0 := cell_plus (HCB.out wr HBW.out k hlt2).1; have hq1 := cell_plus (HCB.out wr HBW.out k hlt2).2
          generalize ts[a].sensor = x0 at hp0 HM2
          generalize ts[a].tick = x1 at hp1 HM2
          generalize ts[k].sensor = y0 at hq0 HM2
          generalize ts[k].tick = y1 at hq1 HM2
          cases hE : E a k with
          | false =>
            rw [hE] at HM2
            have HN := Lib.hid (show scanK E fx n (growK E fx n fuel) a (n - (k + 1)) of' tr' = Q by rw [← HS.out, HSS.out, if_pos (.inl hE)])
            clear hT hft hE
            go_wp2
            refine wp_region_plus (by kernel_rfl) (by kernel_rfl) ?_
            repeat (go_big_quiet_step (((go_at_call 60; exact HM2.out _))))
            refine wpQuiet_nil ?_
            intro wq hwq
            replace hwq := below_of_plus hwq
            clear hxt hxp hp0 hp1 hq0 hq1
            have HTQ := Lib.hid (HT.out.ex hwq)
            have HGQ : Hid (GrS (R2 g1 g3) w wq) := Lib.hid (HG.out.trans (GrS.ofBelow hwq))
            go_wp2
            go_roundw
            case rel => exact ⟨k + 1, of', tr', by go_num, by omega, HN, HED, HUN, HTQ, HGQ⟩
            case measure => simp [intOf]; omega
          | true =>
            rw [hE] at HM2
            have HSN := Lib.hid (show _ = Q from by rw [← HS.out, HSS.out, if_neg (by rw [hE, hT]; simp)])
            have hu1 := untr_set (tr := tr') (b := k) (by rw [HT.out.lt1]; exact hlt) hT
            have HU1 : Hid (untr (tr'.set k true) < fuel) := Lib.hid (by have := HUN.out; omega)
            have hed := HED.out k hlt
            clear hE hT hu1 hft
            go_wp2
            refine wp_region_plus (by kernel_rfl) (by kernel_rfl) ?_
            repeat (go_big_quiet_step (((go_at_call 60; exact HM2.out _))))
            refine wpQuiet_nil ?_
            intro wq hwq
            replace hwq := below_of_plus hwq
            clear hxt hxp hp0 hp1 hq0 hq1
            have HTQ := Lib.hid (HT.out.ex hwq)
            have HT1 := Lib.hid (HTQ.out.setT k)
            have HG1 : Hid (GrS (R2 g1 g3) w (wq.setCell ⟨g3, k, none⟩ (.bool true))) := Lib.hid ((HG.out.trans (GrS.ofBelow hwq)).trans (GrS.set (.inr rfl) _))
            have hxt := HTQ.out.tc hlt; have hft := HTQ.out.tf k
            have hxo := HT1.out.oc hlt; have hfo := HT1.out.of_ k
            by_cases hneg : iAt of' k < 0
            · have HN : Hid ((true, of'.set k (a : Int), tr'.set k true) = Q) := Lib.hid (by rw [← HSN.out, if_pos hneg])
              have hd : decide (iAt of' k < 0) = true := decide_eq_true hneg
              have HT2 := Lib.hid (HT1.out.setO k (a : Int))
              have HGF : Hid (GrS (R2 g1 g3) w ((wq.setCell ⟨g3, k, none⟩ (.bool true)).setCell ⟨g1, k, none⟩ (.int .i64 (a : Int)))) := Lib.hid (HG1.out.trans (GrS.set (.inl rfl) _))
              go_wp2
              go_ret
              rw [← HN.out]
              exact ⟨rfl, HT2.out, HGF.out⟩
            · obtain ⟨r, hr, hrk, hrE⟩ : ∃ r : Nat, r < n ∧ iAt of' k = (r : Int) ∧ E r k = true := by
                rcases hed with h | h
                · omega
                · exact h
              have hd : decide (iAt of' k < 0) = false := decide_eq_false hneg
              have hrt : (iAt of' k).toNat = r := by omega
              rw [hrk] at hxo hd
              have hri : ¬ ((r : Int) < 0) := by omega
              have hrn : (r : Int) < (n : Int) := by omega
              have hxf := (HFX.out _ HG1.out).2 r hr
              cases hfr : fx r with
              | true =>
                rw [hfr] at hxf
                have HN : Hid (scanK E fx n (growK E fx n fuel) a (n - (k + 1)) of' (tr'.set k true) = Q) := Lib.hid (by rw [← HSN.out, if_neg hneg, hrt, if_pos hfr])
                have HU2 : Hid (untr (tr'.set k true) ≤ fuel) := Lib.hid (Nat.le_of_lt HU1.out)
                clear hneg hrk hrt hed hfr hfo
                go_wp2
                go_roundw
                case rel => exact ⟨k + 1, of', tr'.set k true, by go_num, by omega, HN, HED, HU2, HT1, HG1⟩
                case measure => simp [intOf]; omega
              | false =>
                rw [hfr] at hxf
                have HSR := Lib.hid (show _ = Q from by rw [← HSN.out, if_neg hneg, hrt, if_neg (by rw [hfr]; simp)])
                have HCL := Lib.hid (HIH.out r of' (tr'.set k true) (wq.setCell ⟨g3, k, none⟩ (.bool true)) (HBB.out _ HG1.out) HT1.out (HFX.out _ HG1.out) hr HED.out HU1.out)
                have HOU := Lib.hid (HGO.out r of' (tr'.set k true) hr HT1.out.lo1 HT1.out.lt1 HED.out)
                generalize growK E fx n fuel r of' (tr'.set k true) = q at HCL HOU HSR
                obtain ⟨q1, q2, q3⟩ := q
                clear hneg hrk hrt hed hfr hfo
                go_wp2_with fail
                refine HCL.out.mono ?_
                rintro eA wA ⟨rfl, htA, hgA⟩
                have HTA := Lib.hid htA
                have HGW : Hid (GrS (R2 g1 g3) w wA) := Lib.hid (HG1.out.trans hgA)
                have hyf := HTA.out.of_ k; have hyc := HTA.out.oc hlt
                clear hxt hft hxo hxf htA hgA
                cases q1 with
                | true =>
                  have HN : Hid ((true, q2.set k (a : Int), q3) = Q) := Lib.hid (by rw [← HSR.out]; rfl)
                  have HT2 := Lib.hid (HTA.out.setO k (a : Int))
                  have HGF : Hid (GrS (R2 g1 g3) w (wA.setCell ⟨g1, k, none⟩ (.int .i64 (a : Int)))) := Lib.hid (HGW.out.trans (GrS.set (.inl rfl) _))
                  go_wp2
                  go_ret
                  rw [← HN.out]
                  exact ⟨rfl, HT2.out, HGF.out⟩
                | false =>
                  have HN : Hid (scanK E fx n (growK E fx n fuel) a (n - (k + 1)) q2 q3 = Q) := Lib.hid (by rw [← HSR.out]; rfl)
                  have HU2 : Hid (untr q3 ≤ fuel) := Lib.hid (by have h1 := HOU.out.un; have h2 := HU1.out; dsimp only at h1; omega)
                  have HED2 := Lib.hid (show Ed E n q2 from HOU.out.ed)
                  go_wp2
                  go_roundw
                  case rel => exact ⟨k + 1, q2, q3, by go_num, by omega, HN, HED2, HU2, HTA, HGW⟩
                  case measure => simp [intOf]; omega
      · obtain rfl : k = n := by omega
        have HE : Hid ((false, of', tr') = Q) := Lib.hid (by rw [← HS.out, Nat.sub_self]; rfl)
        have hki : ¬ ((k : Int) < (ts.length : Int)) := by have := HNL.out; omega
        go_wp2
        go_ret
        rw [← HE.out]
        exact ⟨rfl, HT.out, HG.out⟩
end Go.Proofs.Ytlgeddbgbcineaa
