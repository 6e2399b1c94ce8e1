/-
BestDay of the reference: the cheapest sets of the hours. Condition: the slices read as lists.
-/
import Derived.Test.YtjleabgoajoegaaBestA
import Derived.BigQuiet
import Derived.Deep.CutRange
namespace Go.Proofs.Ytjleabgoajoegaa
open Go.RowKit
set_option linter.unusedVariables false
set_option linter.unusedSimpArgs false

theorem owI_nilB (w : World) (lo : Nat) : OwI w lo (.slice none 0 0) [] := ⟨World.ownsRow_nil _ _ _ _, by simp⟩
theorem infoIIb : (Try.prog.info? 22).map (fun i => (i.zero, i.size, i.bytes)) = some (some (.slice none 0 0), 1, 24) := by kernel_rfl
theorem one_sl {w : World} {us : List Value} {xss : List (List Int)} (hl : us.length = xss.length) (h : ∀ (i : Nat) (h : i < us.length) (h' : i < xss.length), SlI w us[i] xss[i]) : ∀ u ∈ us, u.oneCell' = true := by
  intro u hu
  obtain ⟨i, hi, rfl⟩ := List.mem_iff_getElem.1 hu
  obtain ⟨A, c, hv, _⟩ := (h i hi (by omega)).op
  rw [hv]; rfl

set_option maxRecDepth 100000 in
set_option maxHeartbeats 4000000 in
theorem specBest_any (v u : Value) (ts : List Blower) (ns : List Int) (w : World) (hv : SlBlower w v ts) (hu : SlI w u ns) :
    Calls Try.prog 38 #[v, u] w fun e w' => ∃ A c, e = .returned (.tuple #[.slice A (bdR ts ns).1.length c, .int .i64 (bdR ts ns).2.1, .int .i64 (bdR ts ns).2.2]) ∧ OwI w' w.heap.size (.slice A (bdR ts ns).1.length c) (bdR ts ns).1 ∧ Below w.heap.size w w' := by
  have HV := Lib.hid hv; have HU := Lib.hid hu
  obtain ⟨A, c, rfl, hla, _⟩ := hv.op
  obtain ⟨B, d, rfl, hlb, hcn⟩ := hu.op
  have HNC := Lib.hid hcn
  have HNIL := Lib.hid (fun w' : World => owI_nilB w' w.heap.size)
  clear hv hu hcn
  go_enter Try.func38, Try.ntmps38
  go_wp2_with fail
  refine (l11Ok_any _ ts _ HV.out).mono ?_
  rintro e w1 ⟨rfl, hb1⟩
  cases hok : blowersOk ts with
  | false =>
    have E : Hid (bdR ts ns = ([], 0, 1)) := Lib.hid (by unfold bdR; rw [hok]; rfl)
    go_wp2
    go_ret3
    exact ⟨none, 0, by rw [E.out]; rfl, by rw [E.out]; exact HNIL.out _, hb1⟩
  | true =>
    go_wp2_with fail
    refine (l11Needs_any _ ns _ (HU.out.ex hb1)).mono ?_
    rintro e w2 ⟨rfl, rfl⟩
    cases hnk : needsOk ns with
    | false =>
      have E : Hid (bdR ts ns = ([], 0, 1)) := Lib.hid (by unfold bdR; rw [hok, hnk]; rfl)
      go_wp2
      go_ret3
      exact ⟨none, 0, by rw [E.out]; rfl, by rw [E.out]; exact HNIL.out _, hb1⟩
    | true =>
      have E : Hid (bdR ts ns = if restF ts (2 ^ ts.length) ns 0 < 0 then ([], 0, 3) else (outF ts (2 ^ ts.length) ns ns.length, restF ts (2 ^ ts.length) ns 0, 0)) := Lib.hid (by unfold bdR; rw [hok, hnk]; rfl)
      have HO := Lib.hid hok
      have hl4 := (blowersOk_at hok).1
      have HK := Lib.hid (needsOk_at hnk)
      have hn24 := HK.out.1
      obtain ⟨hp1, hp2, hp3, _⟩ := two_pow hl4
      have HP := Lib.hid hp1
      have HSB := Lib.hid (fun b s => stepT_bd hok b s)
      have HPW := Lib.hid (fun s => powT_bd hok s)
      clear hok hnk hp1
      generalize (2 ^ ts.length : Nat) = N at HP hp2 hp3 E
      have hwp : wrap64 (2 ^ ts.length) = (N : Int) := HP.out
      have HB1 := Lib.hid hb1
      obtain ⟨B', d', hv9, _, hnc⟩ := (HU.out.ex hb1).op
      injection hv9 with hv9 hvn hv8
      clear hvn
      subst hv9 hv8
      have HN1 := Lib.hid hnc
      clear hnc HNC
      have HV1 := Lib.hid (HV.out.ex hb1)
      have HRB := Lib.hid (fun needs b => restF_bd (fun x y => HSB.out x y) N needs b)
      have HBS := Lib.hid (fun (need : Int) (f : Nat → Int) (b : Int) (k : Nat) => bstep_ok (ts := ts) (fun x y => (HSB.out x y).1) need f b k)
      clear hb1
      go_wp2_with (first | (at_make; refine wpList_make1 w1 rfl (.tmp 31) (.tmp 31) _ rfl w1.heap.size 2 (.int .i64 0) 8 Try.underlying22 infoI64 rfl .i64 .i64 N (congrArg (Value.int .i64) hwp) (congrArg (Value.int .i64) hwp) (by omega) (by omega) (Nat.le_refl _) ?_; intro w2 hown hb2 hsz; have HR0 : Hid (SlI w2 (.slice (some ⟨w1.heap.size, 0, none⟩) N N) (List.replicate N 0)) := Lib.hid (by unfold SlI; rw [List.length_replicate, List.map_replicate]; exact Ow.sl hown); have HB2 := Lib.hid hb2; clear hown hb2 hsz) | fail)
      have HT0 : Hid (SlII (w2.alloc (.cells #[.slice (some ⟨w1.heap.size, 0, none⟩) N N] 22)) (.slice (some ⟨w2.heap.size, 0, none⟩) 1 1) (tabF ts N ns ns.length)) := Lib.hid (by rw [tabF_last]; exact slII_lit HR0.out)
      have HB3 : Hid (Below w1.heap.size w1 (w2.alloc (.cells #[.slice (some ⟨w1.heap.size, 0, none⟩) N N] 22))) := Lib.hid (below_next0 HB2.out (below_alloc _ _))
      clear HR0 HB2
      generalize w2.heap.size = g0 at HT0 ⊢
      go_loopw [8, 9] (fun v8 v9 wr => ∃ (k m8 c8 : Nat) (A8 : Option Addr) (j : Int), v9 = .int .i64 j ∧ j = (k : Int) - 1 ∧ k ≤ ns.length ∧ Hid (m8 + k = ns.length + 1) ∧ v8 = .slice A8 m8 c8 ∧ Hid (SlII wr (.slice A8 m8 c8) (tabF ts N ns k)) ∧ Hid (Below w1.heap.size w1 wr)) (fun _ v9 _ => (intOf v9 + 1).toNat)
      case atStart => exact ⟨ns.length, 1, _, _, _, rfl, rfl, Nat.le_refl _, Lib.hid (by omega), rfl, HT0, HB3⟩
      case round =>
        obtain ⟨w3, hw3⟩ : ∃ x : World, x = wr := ⟨wr, rfl⟩
        subst hw3
        obtain ⟨k, m8, c8, A8, j, rfl, hj, hk, HM8, rfl, HT, HB⟩ := hrel
        by_cases hk0 : k = 0
        · subst hk0
          obtain rfl : j = -1 := by omega
          clear hj
          obtain ⟨bt, ot, A', c', hA8, hbt, hct, hrow⟩ := tab_cell HT.out (show 0 + 0 ≤ ns.length by omega)
          obtain ⟨b0, o0, hA0, hb0, hx0⟩ := hrow 0 (by omega)
          simp only [Nat.add_zero, List.drop_zero] at hct hx0
          have hm8 : 0 < (m8 : Int) := by have := HM8.out; omega
          have hN0 : 0 < (N : Int) := by omega
          have hE := E.out
          subst hA8
          subst hA0
          by_cases hneg : restF ts N ns 0 < 0
          · rw [if_pos hneg] at hE
            have E2 := Lib.hid hE
            clear hE E HRB HBS
            generalize restF ts N ns 0 = r0 at hx0 hneg
            go_wp2
            go_ret3
            exact ⟨none, 0, by rw [E2.out]; rfl, by rw [E2.out]; exact HNIL.out _, below_next0 HB1.out HB.out⟩
          · rw [if_neg hneg] at hE
            have E2 := Lib.hid hE
            have HWP := Lib.hid (way_pos (ts := ts) (N := N) (needs := ns) (fun x y => (HSB.out x y).1) (show 0 ≤ restF ts N ns 0 by omega))
            have HBL := Lib.hid (bef_lt (ts := ts) (N := N) (needs := ns) (fun x y => (HSB.out x y).1) (by omega) (show 0 ≤ restF ts N ns 0 by omega))
            have HBA := Lib.hid (fun (h : Nat) (hh : h < ns.length) hr => bef_at (ts := ts) (fun x y => (HSB.out x y).1) (N := N) hh hr)
            clear hE E HBS
            generalize restF ts N ns 0 = r0 at hx0 hneg E2
            have HX0 := Lib.hid hx0; have HCT := Lib.hid hct
            have HEM := Lib.hid (owI_empty w3 w3.heap.size (Nat.le_refl _))
            have HBE := Lib.hid (below_alloc w3 (.cells #[] 2))
            go_wp2
            go_loopw [15, 16, 17] (fun v15 v16 v17 wr => ∃ (h c2 : Nat) (A2 : Option Addr), v17 = .int .i64 h ∧ h ≤ ns.length ∧ v16 = .int .i64 (befF ts N ns h : Int) ∧ v15 = .slice A2 h c2 ∧ Hid (OwI wr w3.heap.size (.slice A2 h c2) (outF ts N ns h)) ∧ Hid (Below w3.heap.size w3 wr)) (fun _ _ v17 _ => ns.length - (intOf v17).toNat)
            case atStart => exact ⟨0, 0, _, rfl, Nat.zero_le _, rfl, rfl, Lib.hid (by simpa [outF] using HEM.out), HBE⟩
            case round =>
              obtain ⟨w4, hw4⟩ : ∃ x : World, x = wr := ⟨wr, rfl⟩
              subst hw4
              clear HEM HBE hx0 hct
              obtain ⟨h, c2, A2, rfl, hh, rfl, rfl, HOW, HB4⟩ := hrel
              by_cases hlt : h < ns.length
              · have hhi : (h : Int) < (ns.length : Int) := by omega
                have hh1 : (h : Int) + 1 < (m8 : Int) := by have := HM8.out; omega
                have hh2 : (h : Int) < (m8 : Int) := by omega
                have hwp2 := HWP.out h (by omega)
                obtain ⟨k1, -, k3, k4, k5, k6⟩ := HBA.out h hlt hwp2
                have hbl := HBL.out h (by omega)
                obtain ⟨bn, on, hBN, hbn, hcn⟩ := HN1.out h hlt
                have hnx := hcn h hlt
                have hg : ns.getD h 0 = ns[h] := by simp [List.getD_eq_getElem?_getD, hlt]
                rw [hg] at k3 k6
                obtain ⟨hn0, hn1⟩ := HK.out.2 h hlt
                obtain ⟨bt1, ot1, A1, c1, hA1, hbt1, hct1, hrow1⟩ := tab_cell HT.out (show 0 + (h + 1) ≤ ns.length by omega)
                obtain ⟨bt2, ot2, A3, c3, hA3, hbt2, hct2, hrow2⟩ := tab_cell HT.out (show 0 + h ≤ ns.length by omega)
                simp only [Nat.zero_add] at hrow1 hrow2
                obtain ⟨rfl, rfl⟩ : bt1 = bt ∧ ot1 = ot := by
                  injection hA1 with h1
                  injection h1 with h1 h2 _
                  exact ⟨h1.symm, h2.symm⟩
                obtain ⟨rfl, rfl⟩ : bt2 = bt1 ∧ ot2 = ot1 := by
                  injection hA3 with h1
                  injection h1 with h1 h2 _
                  exact ⟨h1.symm, h2.symm⟩
                obtain ⟨b2, o2, hA3', hb2, hx2⟩ := hrow2 _ hbl
                have HOS := Lib.hid (outF_succ ts N ns h)
                obtain ⟨jj, HJ⟩ : ∃ jj, Hid (befF ts N ns (h + 1) = jj) := ⟨_, Lib.hid rfl⟩
                rw [HJ.out] at k1 k3 k4 k5 k6 HOS
                have HFB : Hid (∀ s, restF ts N (ns.drop (h + 1)) s = -1 ∨ (0 ≤ restF ts N (ns.drop (h + 1)) s ∧ restF ts N (ns.drop (h + 1)) s ≤ 1920000)) := Lib.hid fun s => by
                  have h9 := HRB.out (ns.drop (h + 1)) s
                  have h8 : (ns.drop (h + 1)).length ≤ 24 := by rw [List.length_drop]; omega
                  omega
                have HROW := Lib.hid hrow1
                have HOL := Lib.hid (outF_len ts N ns h)
                generalize restF ts N (ns.drop (h + 1)) = f1 at k4 k5 k6 HFB HROW
                generalize befF ts N ns h = bf at hbl k5 k6 hwp2 hx2 ⊢
                generalize restF ts N (ns.drop h) bf = rr at k5 k6 hwp2 hx2
                generalize ns[h] = need at hnx hn0 hn1 k3 k6
                have HK6 := Lib.hid k6
                have HX2 := Lib.hid hx2; have HNX := Lib.hid hnx; have HC1 := Lib.hid hct1; have HC2 := Lib.hid hct2
                clear hcn hrow1 hrow2 k6 hA1 hA3 hx2 hnx hct1 hct2 hwp2
                subst hBN
                subst hA3'
                have hbfi : (bf : Int) < (N : Int) := by omega
                go_wp2
                go_loopw [15, 16, 18] (fun v15 v16 v18 wr => ∃ s : Nat, v18 = .int .i64 s ∧ s ≤ jj ∧ v16 = .int .i64 (bf : Int) ∧ v15 = .slice A2 h c2 ∧ Hid (Below w4.heap.size w4 wr)) (fun _ _ v18 _ => N - (intOf v18).toNat)
                case atStart => exact ⟨0, rfl, Nat.zero_le _, rfl, rfl, Lib.hid (Below.refl _ _)⟩
                case round =>
                  obtain ⟨w5, hw5⟩ : ∃ x : World, x = wr := ⟨wr, rfl⟩
                  subst hw5
                  obtain ⟨s, rfl, hsj, rfl, rfl, HB5⟩ := hrel
                  have hsN : s < N := by omega
                  have hsi : (s : Int) < (N : Int) := by omega
                  have hb35 := below_next0 HB4.out HB5.out
                  obtain ⟨b1, o1, hA1', hb1, hx1⟩ := HROW.out s hsN
                  have hy1 := (hb35.cell (p := ⟨b1, o1 + s, none⟩) hb1).trans hx1
                  have hy2 := (hb35.cell (p := ⟨b2, o2 + bf, none⟩) hb2).trans HX2.out
                  have hyn := ((below_next0 HB.out hb35).cell (p := ⟨bn, on + h, none⟩) hbn).trans HNX.out
                  have hyc := (hb35.cell (p := ⟨bt2, ot2 + (h + 1), none⟩) hbt).trans HC1.out
                  have hyd := (hb35.cell (p := ⟨bt2, ot2 + h, none⟩) hbt).trans HC2.out
                  rw [hA1'] at hyc
                  have HV5 := Lib.hid (HV1.out.ex (below_next0 HB.out hb35))
                  have HPC := Lib.hid (fun n => l11Power_any _ ts (s : Int) (w5.drewN n) (HV5.out.drewN n) HO.out (by omega))
                  have HSC := Lib.hid (fun n => l11Step_any _ ts (bf : Int) (s : Int) (w5.drewN n) (HV5.out.drewN n) HO.out (by omega) (by omega))
                  obtain ⟨hst0, hst1⟩ := HSB.out (bf : Int) (s : Int); have hfb := HFB.out s
                  have HB35 := Lib.hid hb35
                  clear hx1 hb35
                  by_cases hs : s = jj
                  · subst hs
                    clear HROW HK6 HFB
                    generalize powT ts (s : Int) = pw at HPC k3
                    generalize stepT ts (bf : Int) (s : Int) = sp at HSC k5 hst0 hst1
                    generalize f1 s = fs at hy1 k4 k5 hfb
                    have hd1 : decide (need ≤ pw) = true := decide_eq_true k3
                    have hd2 : decide (0 ≤ fs) = true := decide_eq_true k4
                    have hfs1 : fs ≤ 1920000 := by omega
                    have hd3 : (sp + fs == rr) = true := beq_iff_eq.2 k5.symm
                    clear k5 hfb
                    go_wp2
                    go_quiet ((first | (go_at_call 62; exact quiet_same_left (HPC.out _)) | (go_at_call 66; exact quiet_same_left (HSC.out _))))
                    go_upto_region 33 with fail
                    refine wp_gen ?_
                    intro w6 hw6
                    have HB6 : Hid (Below w3.heap.size w3 w6) := Lib.hid (by rw [hw6]; exact below_drewN HB35.out _)
                    have HOW6 : Hid (OwI w6 w3.heap.size (.slice A2 h c2) (outF ts N ns h)) := Lib.hid (by rw [hw6]; exact Ow.drewN (HOW.out.ex HB5.out) _)
                    clear hw6 HPC HSC hy1 hy2 hyn hyc hyd
                    go_wp2_with (first | (at_builtin; refine wpList_appI w6 rfl (.tmp 156) (.tmp 158) rfl w3.heap.size w3.heap.size w3 A2 h c2 _ _ _ _ rfl HOW6.out HOL.out rfl HB6.out (Nat.le_refl _) HB6.out.size (by omega) ?_; intro A4 c4 w7 hown3 hg3 hsz3 hb3; have HO3 := Lib.hid hown3; have HB3 := Lib.hid hb3; clear hown3 hg3 hsz3 hb3) | fail)
                    go_roundw
                    case rel => exact ⟨h + 1, c4, A4, by go_num, by omega, by rw [HJ.out], rfl, Lib.hid (by rw [HOS.out]; exact HO3.out), HB3⟩
                    case measure => simp [intOf]; omega
                  · have hsj2 : s < jj := by omega
                    have hk6 := HK6.out s hsj2
                    clear HROW HK6 HFB
                    generalize powT ts (s : Int) = pw at HPC hk6
                    generalize stepT ts (bf : Int) (s : Int) = sp at HSC hk6 hst0 hst1
                    generalize f1 s = fs at hy1 hk6 hfb
                    by_cases hp : need ≤ pw
                    · have hd1 : decide (need ≤ pw) = true := decide_eq_true hp
                      by_cases hf : 0 ≤ fs
                      · have hd2 : decide (0 ≤ fs) = true := decide_eq_true hf
                        have hfs1 : fs ≤ 1920000 := by omega
                        have hd3 : (sp + fs == rr) = false := beq_eq_false_iff_ne.2 (by have := hk6 hp hf; omega)
                        clear hk6 hfb
                        go_wp2
                        go_quiet ((first | (go_at_call 62; exact quiet_same_left (HPC.out _)) | (go_at_call 66; exact quiet_same_left (HSC.out _))))
                        go_wp2
                        go_roundw
                        case rel => exact ⟨s + 1, by go_num, by omega, rfl, rfl, Lib.hid (below_drewN HB5.out _)⟩
                        case measure => simp [intOf]; omega
                      · have hd2 : decide (0 ≤ fs) = false := decide_eq_false hf
                        clear hk6 hfb
                        go_wp2
                        go_quiet ((first | (go_at_call 62; exact quiet_same_left (HPC.out _)) | (go_at_call 66; exact quiet_same_left (HSC.out _))))
                        go_wp2
                        go_roundw
                        case rel => exact ⟨s + 1, by go_num, by omega, rfl, rfl, Lib.hid (below_drewN HB5.out _)⟩
                        case measure => simp [intOf]; omega
                    · have hd1 : decide (need ≤ pw) = false := decide_eq_false hp
                      clear hk6 hfb
                      go_wp2
                      go_quiet ((first | (go_at_call 62; exact quiet_same_left (HPC.out _)) | (go_at_call 66; exact quiet_same_left (HSC.out _))))
                      go_wp2
                      go_roundw
                      case rel => exact ⟨s + 1, by go_num, by omega, rfl, rfl, Lib.hid (below_drewN HB5.out _)⟩
                      case measure => simp [intOf]; omega
              · have hhi : ¬ ((h : Int) < (ns.length : Int)) := by omega
                obtain rfl : h = ns.length := by omega
                have hx1 := (HB4.out.cell (p := ⟨bt, ot, none⟩) hbt).trans HCT.out
                have hx2 := (HB4.out.cell (p := ⟨b0, o0, none⟩) hb0).trans HX0.out
                have HBF := Lib.hid (below_next0 HB1.out (below_next0 HB.out HB4.out))
                clear HBL HBA HWP HRB
                go_wp2
                go_quiet (fail)
                go_wp2
                go_ret3
                exact ⟨A2, c2, by rw [E2.out]; show _ = Ending.returned (.tuple #[.slice A2 (outF ts N ns ns.length).length c2, .int .i64 r0, .int .i64 0]); rw [outF_len]; rfl, by rw [E2.out]; show OwI _ _ (.slice A2 (outF ts N ns ns.length).length c2) (outF ts N ns ns.length); rw [outF_len]; exact Ow.drewN (OwI.mono HOW.out (below_next0 HB1.out HB.out).size) _, below_drewN HBF.out _⟩
        · obtain ⟨q, rfl⟩ : ∃ q, k = q + 1 := ⟨k - 1, by omega⟩
          obtain rfl : j = (q : Int) := by omega
          clear hk0 hj
          have hql : q < ns.length := by omega
          have hqi : (q : Int) < (ns.length : Int) := by omega
          have hq0 : ¬ ((q : Int) < 0) := by omega
          have hm8 : 0 < (m8 : Int) := by have := HM8.out; omega
          obtain ⟨bn, on, hBN, hbn, hcn⟩ := HN1.out q hql
          have HCN : Hid (∀ W, Below w3.heap.size w3 W → W.cell? ⟨bn, on + q, none⟩ = some (.int .i64 ns[q])) := Lib.hid fun W hW => ((below_next0 HB.out hW).cell (p := ⟨bn, on + q, none⟩) hbn).trans (hcn q hql)
          obtain ⟨hn0, hn1⟩ := HK.out.2 q hql
          have HRE : Hid (∀ b : Nat, restF ts N (ns.drop q) b = (bstep ts ns[q] (restF ts N (ns.drop (q + 1))) (b : Int) N).2) := Lib.hid (fun b => rest_cons hql b)
          obtain ⟨bt, ot, A', c', hA8, hbt, hct, hrow⟩ := tab_cell HT.out (show q + 1 + 0 ≤ ns.length by omega)
          simp only [Nat.add_zero] at hct hrow
          have HROW := Lib.hid hrow
          have HFB : Hid (∀ s, restF ts N (ns.drop (q + 1)) s = -1 ∨ (0 ≤ restF ts N (ns.drop (q + 1)) s ∧ restF ts N (ns.drop (q + 1)) s ≤ 1920000)) := Lib.hid fun s => by
            have h9 := HRB.out (ns.drop (q + 1)) s
            have h8 : (ns.drop (q + 1)).length ≤ 24 := by rw [List.length_drop]; omega
            omega
          clear hcn hrow
          generalize restF ts N (ns.drop (q + 1)) = f at HRE HROW HFB
          generalize ns[q] = need at HCN hn0 hn1 HRE
          subst hA8
          subst hBN
          have HEM := Lib.hid (owI_empty w3 w3.heap.size (Nat.le_refl _))
          have HBE := Lib.hid (below_alloc w3 (.cells #[] 2))
          go_wp2
          go_loopw [10, 11] (fun v10 v11 w4 => ∃ (b c2 : Nat) (A2 : Option Addr), v11 = .int .i64 b ∧ b ≤ N ∧ v10 = .slice A2 b c2 ∧ Hid (OwI w4 w3.heap.size (.slice A2 b c2) (rowF ts N (ns.drop q) b)) ∧ Hid (Below w3.heap.size w3 w4)) (fun _ v11 _ => N - (intOf v11).toNat)
          case atStart => exact ⟨0, 0, _, rfl, Nat.zero_le _, rfl, Lib.hid (by simpa [rowF] using HEM.out), HBE⟩
          case round =>
            obtain ⟨w4, hw4⟩ : ∃ x : World, x = wr := ⟨wr, rfl⟩
            subst hw4
            clear HEM HBE
            obtain ⟨b, c2, A2, rfl, hbN, rfl, HOW, HB4⟩ := hrel
            by_cases hlt : b < N
            · have hbi : (b : Int) < (N : Int) := by omega
              have HV4 := Lib.hid (HV1.out.ex (below_next0 HB.out HB4.out))
              go_wp2
              go_loopw [12, 13] (fun v12 v13 w5 => ∃ s : Nat, v13 = .int .i64 s ∧ s ≤ N ∧ v12 = .int .i64 (bstep ts need f (b : Int) s).2 ∧ Hid (Below w4.heap.size w4 w5)) (fun _ v13 _ => N - (intOf v13).toNat)
              case atStart => exact ⟨0, rfl, Nat.zero_le _, rfl, Lib.hid (Below.refl _ _)⟩
              case round =>
                obtain ⟨w5, hw5⟩ : ∃ x : World, x = wr := ⟨wr, rfl⟩
                subst hw5
                obtain ⟨s, rfl, hsN, rfl, HB5⟩ := hrel
                by_cases hlt2 : s < N
                · have hsi : (s : Int) < (N : Int) := by omega
                  obtain ⟨b', o', hA', hb', hfx0⟩ := HROW.out s hlt2
                  have HX : Hid (∀ W, Below w4.heap.size w4 W → W.cell? ⟨bn, on + q, none⟩ = some (.int .i64 need) ∧ W.cell? ⟨bt, ot, none⟩ = some (.slice (some ⟨b', o', none⟩) N c') ∧ W.cell? ⟨b', o' + s, none⟩ = some (.int .i64 (f s))) := Lib.hid fun W hW => by
                    have h9 := below_next0 HB4.out hW
                    refine ⟨HCN.out W h9, ?_, (h9.cell (p := ⟨b', o' + s, none⟩) hb').trans hfx0⟩
                    rw [← hA']; exact (h9.cell (p := ⟨bt, ot, none⟩) hbt).trans hct
                  have HPC := Lib.hid (fun W (hW : Below w4.heap.size w4 W) n => l11Power_any _ ts (s : Int) (W.drewN n) ((HV4.out.ex hW).drewN n) HO.out (by omega))
                  have HSC := Lib.hid (fun W (hW : Below w4.heap.size w4 W) n => l11Step_any _ ts (b : Int) (s : Int) (W.drewN n) ((HV4.out.ex hW).drewN n) HO.out (by omega) (by omega))
                  have HNO := Lib.hid (@bstep_no ts need f (b : Int) s); have HNEW := Lib.hid (@bstep_new ts need f (b : Int) s); have HOLD := Lib.hid (@bstep_old ts need f (b : Int) s)
                  obtain ⟨hst0, hst1⟩ := HSB.out (b : Int) (s : Int); have hfb := HFB.out s
                  generalize powT ts (s : Int) = pw at HPC HNO HNEW
                  generalize stepT ts (b : Int) (s : Int) = sp at HSC HNEW HOLD hst0 hst1
                  generalize f s = fs at HX HNO HNEW HOLD hfb
                  generalize bstep ts need f (b : Int) s = pr at HNO HNEW HOLD ⊢
                  obtain ⟨hx1, hx2, hx3⟩ := HX.out w5 HB5.out
                  have HPC5 := Lib.hid (HPC.out w5 HB5.out)
                  clear hA' hb' hfx0 HPC
                  by_cases hpw : pw < need
                  · have hd : decide (pw < need) = true := decide_eq_true hpw
                    have HE := Lib.hid (HNO.out (.inl hpw))
                    clear hpw HNO HNEW HOLD HSC HX hfb
                    go_wp2
                    go_quiet ((go_at_call 62; exact quiet_same_left (HPC5.out _)))
                    go_wp2
                    go_roundw
                    case rel => exact ⟨s + 1, by go_num, by omega, by rw [HE.out], Lib.hid (below_drewN HB5.out _)⟩
                    case measure => simp [intOf]; omega
                  · have hd : decide (pw < need) = false := decide_eq_false hpw
                    by_cases hf0 : fs < 0
                    · have hd2 : decide (fs < 0) = true := decide_eq_true hf0
                      have HE := Lib.hid (HNO.out (.inr hf0))
                      clear hpw hf0 HNO HNEW HOLD HSC HX hfb
                      go_wp2
                      go_quiet ((go_at_call 62; exact quiet_same_left (HPC5.out _)))
                      go_wp2
                      go_roundw
                      case rel => exact ⟨s + 1, by go_num, by omega, by rw [HE.out], Lib.hid (below_drewN HB5.out _)⟩
                      case measure => simp [intOf]; omega
                    · have hd2 : decide (fs < 0) = false := decide_eq_false hf0
                      have hfs0 : 0 ≤ fs := by omega
                      have hfs1 : fs ≤ 1920000 := by omega
                      have HE := Lib.hid (HNEW.out (by omega) hfs0); have HF := Lib.hid HOLD.out
                      clear hpw hf0 HNO HNEW HOLD hfb
                      go_wp2
                      go_quiet ((go_at_call 62; exact quiet_same_left (HPC5.out _)))
                      go_wp2
                      refine wp_gen ?_
                      intro w6 hw6
                      have HB6 : Hid (Below w4.heap.size w4 w6) := Lib.hid (by rw [hw6]; exact below_drewN HB5.out _)
                      clear hw6 hx1 hx2 hx3 HPC5
                      obtain ⟨hx1, hx2, hx3⟩ := HX.out w6 HB6.out
                      have HSC6 := Lib.hid (HSC.out w6 HB6.out)
                      clear HX HSC
                      go_quiet ((go_at_call 66; exact quiet_same_left (HSC6.out _)))
                      by_cases hc1 : pr.2 < 0
                      · have HG := Lib.hid (HE.out (.inl hc1))
                        go_wp2
                        go_roundw
                        case rel => exact ⟨s + 1, by go_num, by omega, by rw [HG.out], Lib.hid (below_drewN HB6.out _)⟩
                        case measure => simp [intOf]; omega
                      · by_cases hc2 : sp + fs < pr.2
                        · have HG := Lib.hid (HE.out (.inr hc2))
                          go_wp2
                          go_roundw
                          case rel => exact ⟨s + 1, by go_num, by omega, by rw [HG.out], Lib.hid (below_drewN HB6.out _)⟩
                          case measure => simp [intOf]; omega
                        · have HG := Lib.hid (HF.out (by omega))
                          go_wp2
                          go_roundw
                          case rel => exact ⟨s + 1, by go_num, by omega, by rw [HG.out], Lib.hid (below_drewN HB6.out _)⟩
                          case measure => simp [intOf]; omega
                · have hsi : ¬ ((s : Int) < (N : Int)) := by omega
                  obtain rfl : s = N := by omega
                  have HB7 := Lib.hid (below_next0 HB4.out HB5.out)
                  have HOW5 := Lib.hid (HOW.out.ex HB5.out)
                  have HL := Lib.hid (rowF_len ts s (ns.drop q) b)
                  have HREB := Lib.hid (HRE.out b)
                  have HRS := Lib.hid (rowF_succ ts s (ns.drop q) b)
                  rw [HREB.out] at HRS
                  generalize bstep ts need f (b : Int) s = pr at HRS ⊢
                  obtain ⟨p1, p2⟩ := pr
                  dsimp only at HRS
                  clear HREB HRE E HP hwp HRB HBS HROW HFB
                  go_wp2_with (first | (at_builtin; refine wpList_appI w5 rfl (.tmp 88) (.tmp 90) rfl w3.heap.size w3.heap.size w3 A2 b c2 _ _ _ _ rfl HOW5.out HL.out rfl HB7.out (Nat.le_refl _) HB7.out.size (by omega) ?_; intro A3 c3 w6 hown3 hg3 hsz3 hb3; have HO3 := Lib.hid hown3; have HB3 := Lib.hid hb3; clear hown3 hg3 hsz3 hb3) | fail)
                  go_roundw
                  case rel => exact ⟨b + 1, c3, A3, by go_num, by omega, rfl, Lib.hid (by rw [HRS.out]; exact HO3.out), HB3⟩
                  case measure => simp [intOf]; omega
            · have hbi : ¬ ((b : Int) < (N : Int)) := by omega
              obtain rfl : b = N := by omega
              have HRW : Hid (SlI w4 (.slice A2 b c2) (rowF ts b (ns.drop q) b)) := Lib.hid (OwI.sl (by have h9 := HOW.out; exact h9))
              obtain ⟨us, hus, hue⟩ := HT.out.ex HB4.out
              have hul : us.length = (tabF ts b ns (q + 1)).length := by obtain ⟨_, _, _, h9, _⟩ := hus; omega
              have HUS := Lib.hid (Sl.ex hus (below_alloc w4 (.cells #[.slice A2 b c2] 22)))
              have e0 : (tabF ts b ns (q + 1)).length = m8 := by rw [tabF_len]; have := HM8.out; omega
              rw [e0] at HUS
              have HUE := Lib.hid hue
              have HONE := Lib.hid (one_sl hul hue)
              have HLIT : Hid (Ow (w4.alloc (.cells #[.slice A2 b c2] 22)) w4.heap.size 22 1 (.slice (some ⟨w4.heap.size, 0, none⟩) 1 1) 1 [.slice A2 b c2]) := Lib.hid ⟨World.ownsRow_lit w4 #[.slice A2 b c2] 1 (Nat.le_refl _) (by unfold maxLen; omega) (by simp), by simp⟩
              have hnl : m8 ≤ 24 := by have := HM8.out; omega
              clear hus hue hul
              go_wp2_with (first | (at_builtin; refine wpList_cat (w4.alloc (.cells #[.slice A2 b c2] 22)) rfl (.tmp 93) (.tmp 94) _ rfl w4.heap.size 22 (.slice none 0 0) 1 24 Try.underlying82 infoIIb rfl (by omega) (.slice (some ⟨w4.heap.size, 0, none⟩) 1 1) 1 [.slice A2 b c2] rfl HLIT.out (.slice (some ⟨bt, ot, none⟩) m8 c8) m8 us rfl HUS.out HONE.out (by omega) (by omega) (by simp) ?_; intro A3 c3 w6 _ hown3 hg3 hsz3) | fail)
              have hb6 : Below w4.heap.size w4 w6 := (below_alloc w4 _).grown hg3 (by simp) (fun k hk => by simp [Value.ownBlock] at hk; omega)
              have HT6 : Hid (SlII w6 (.slice A3 (1 + m8) c3) (tabF ts b ns q)) := Lib.hid (by
                rw [tabF_cons hql]
                exact slII_join (Ow.sl hown3) e0 (HRW.out.ex hb6) (fun i h1 h2 => (HUE.out i h1 h2).ex hb6))
              have HB6 := Lib.hid (below_next0 HB.out (below_next0 HB4.out hb6))
              clear hb6 hown3 hg3 hsz3
              go_wp2
              go_roundw
              case rel => exact ⟨q, 1 + m8, c3, A3, (q : Int) - 1, by go_num, rfl, by omega, Lib.hid (by have := HM8.out; omega), by first | rfl | (rw [Nat.add_comm]), HT6, HB6⟩
              case measure => simp [intOf] <;> omega
end Go.Proofs.Ytjleabgoajoegaa
