/-
SafeRun of the program: the walk. Condition: the slices read as lists.
-/
import Derived.Test.YtegabdhmfemgkaaPolU
namespace Go.Proofs.Ytegabdhmfemgkaa
open Go.RowKit
set_option linter.unusedVariables false

set_option maxRecDepth 100000 in
set_option maxHeartbeats 8000000 in
theorem implSafeRun_any (v u : Value) (halls : List Int) (ways : List (List Int)) (w : World) (hv : SlI w v halls) (hu : SlII w u ways) :
    Calls Try.prog 34 #[v, u] w fun e w' => ∃ A c, e = .returned (.tuple #[.slice A (runR halls ways).1.length c, .int .i64 (runR halls ways).2]) ∧ OwI w' w.heap.size (.slice A (runR halls ways).1.length c) (runR halls ways).1 ∧ Below w.heap.size w w' := by
  have HV := Lib.hid hv; have HU := Lib.hid hu
  obtain ⟨A, d, rfl, hla, ha⟩ := hv.op
  obtain ⟨B, e, rfl, hlb, hat⟩ := hu.op
  clear hv hu ha hat
  have HR : Hid (runR halls ways = if travOk halls ways = true then ((runT halls ways 24).2, 0) else ([], 1)) := Lib.hid rfl
  have HNIL : Hid (∀ W : World, OwI W w.heap.size (.slice none 0 0) []) := Lib.hid fun W => ⟨World.ownsRow_nil _ _ _ _, by simp⟩
  have hmm := @run_makeMap Try.prog
  go_enter Try.func34, Try.ntmps34
  go_wp2_with fail
  refine (validTravels_any _ _ halls ways _ HV.out HU.out).mono ?_
  rintro e1 w1 ⟨rfl, hb1⟩
  have HB1 := Lib.hid hb1
  clear hb1
  cases ht : travOk halls ways with
  | false =>
    have E : Hid (runR halls ways = ([], 1)) := Lib.hid (by rw [HR.out, ht]; rfl)
    clear ht
    go_wp2
    go_ret2
    rw [E.out]
    exact ⟨none, 0, rfl, HNIL.out _, HB1.out⟩
  | true =>
    have HTR := Lib.hid ht
    have E : Hid (runR halls ways = ((runT halls ways 24).2, 0)) := Lib.hid (by rw [HR.out, ht]; rfl)
    obtain ⟨_, _, h4, hway⟩ := travOk_at ht
    have HBA : Hid (∀ k, RunT halls ways k → k ≤ 24) := Lib.hid fun k h => RunOk.le (lens5 ht) (lens4 ht) h
    have HEN : Hid (∀ k, RunT halls ways k → safeMT halls ways (runT halls ways k).1 = [] → (runT halls ways k).2 = (runT halls ways 24).2) := Lib.hid fun k h he => RunOk.fin (lens5 ht) (lens4 ht) h he
    have HGO : Hid (∀ k, RunT halls ways k → ∀ c cs, safeMT halls ways (runT halls ways k).1 = c :: cs → ∃ cn : Nat, cn < ways.length ∧ c = (cn : Int) ∧ runT halls ways (k + 1) = (nxS (runT halls ways k).1 cn, (runT halls ways k).2 ++ [(cn : Int)]) ∧ RunT halls ways (k + 1)) := Lib.hid fun k h c cs he => by
      have hc : c ∈ safeMT halls ways (runT halls ways k).1 := by rw [he]; simp
      obtain ⟨cn, hcn, hck, _⟩ := mem_moves.1 (List.mem_filter.1 hc).1
      subst hck
      exact ⟨cn, hcn, rfl, runK_go he, RunOk.next mvOk_moves h he⟩
    have HRZ := Lib.hid (runT_zero ht)
    have HP6 : Hid (∀ s, Good (lensW ways) s → s.length = ways.length ∧ ∀ k, k < ways.length → 0 ≤ plc s k ∧ plc s k ≤ 1000) := Lib.hid fun s hs => by
      obtain ⟨h1, h2⟩ := hs.at_
      refine ⟨h1, fun k hk => ?_⟩
      have h3 := h2 k hk
      have h5 := (wayOk_at (hway _ (List.getElem_mem hk))).1
      omega
    clear ht hway
    go_wp2_with fail
    refine (newTravels_any _ _ halls ways _ (HV.out.ex HB1.out) (HU.out.ex HB1.out)).mono ?_
    rintro e2 w2 ⟨rfl, hb2⟩
    have HB2 := Lib.hid (below_next0 HB1.out hb2)
    have HLO2 := Lib.hid HB2.out.size
    clear hb2
    have HI0 : Hid (RunB (lensW ways) w (.slice A halls.length d) (.slice B ways.length e) ways.length (w2.heap.size + 1 + 1) (w2.heap.size + 1 + 1 + 1) w2.heap.size 0 (fun _ => none) (zeroS ways.length) (some ⟨w2.heap.size + 1, 0, none⟩) 0 0 [] ((((w2.alloc (.map #[] 0)).alloc (.cells #[] 2)).alloc (.cells #[.slice A halls.length d, .slice B ways.length e, .int .i64 ways.length] 69)).alloc (.cells #[.int .i64 0, .int .i64 0, .int .i64 0, .int .i64 0] 86))) := Lib.hid (by
      have a1 := below_alloc w2 (.map #[] 0)
      have a2 := below_alloc (w2.alloc (.map #[] 0)) (.cells #[] 2)
      have a3 := below_alloc ((w2.alloc (.map #[] 0)).alloc (.cells #[] 2)) (.cells #[.slice A halls.length d, .slice B ways.length e, .int .i64 ways.length] 69)
      have a4 := below_alloc (((w2.alloc (.map #[] 0)).alloc (.cells #[] 2)).alloc (.cells #[.slice A halls.length d, .slice B ways.length e, .int .i64 ways.length] 69)) (.cells #[.int .i64 0, .int .i64 0, .int .i64 0, .int .i64 0] 86)
      have m0 := mapB_made (lensW ways) w2
      have o0 := ow_empty (w2.alloc (.map #[] 0)) w.heap.size 2 1 (by simp; have := HLO2.out; omega)
      have t0 : Ow (((w2.alloc (.map #[] 0)).alloc (.cells #[] 2)).alloc (.cells #[.slice A halls.length d, .slice B ways.length e, .int .i64 ways.length] 69)) w.heap.size 69 3 (.slice (some ⟨((w2.alloc (.map #[] 0)).alloc (.cells #[] 2)).heap.size, 0, none⟩) 1 1) 1 [.slice A halls.length d, .slice B ways.length e, .int .i64 ways.length] :=
        ⟨World.ownsRow_lit _ #[.slice A halls.length d, .slice B ways.length e, .int .i64 ways.length] 1 (by simp; have := HLO2.out; omega) (by unfold maxLen; omega) (by simp), by omega⟩
      have s0 : Ow ((((w2.alloc (.map #[] 0)).alloc (.cells #[] 2)).alloc (.cells #[.slice A halls.length d, .slice B ways.length e, .int .i64 ways.length] 69)).alloc (.cells #[.int .i64 0, .int .i64 0, .int .i64 0, .int .i64 0] 86)) w.heap.size 86 4 (.slice (some ⟨(((w2.alloc (.map #[] 0)).alloc (.cells #[] 2)).alloc (.cells #[.slice A halls.length d, .slice B ways.length e, .int .i64 ways.length] 69)).heap.size, 0, none⟩) 1 1) 1 [.int .i64 0, .int .i64 0, .int .i64 0, .int .i64 0] :=
        ⟨World.ownsRow_lit _ #[.int .i64 0, .int .i64 0, .int .i64 0, .int .i64 0] 1 (by simp; have := HLO2.out; omega) (by unfold maxLen; omega) (by simp), by omega⟩
      have e1 : (w2.alloc (.map #[] 0)).heap.size = w2.heap.size + 1 := by simp
      have e2 : ((w2.alloc (.map #[] 0)).alloc (.cells #[] 2)).heap.size = w2.heap.size + 1 + 1 := by simp
      have e3 : (((w2.alloc (.map #[] 0)).alloc (.cells #[] 2)).alloc (.cells #[.slice A halls.length d, .slice B ways.length e, .int .i64 ways.length] 69)).heap.size = w2.heap.size + 1 + 1 + 1 := by simp
      rw [e1] at o0
      rw [e2] at t0
      rw [e3] at s0
      refine ⟨below_next0 (below_next0 (below_next0 (below_next0 HB2.out a1) a2) a3) a4, t0.ex a4, ?_, ((m0.ex a2).ex a3).ex a4, (o0.ex a3).ex a4⟩
      simpa [plc_zero] using s0)
    go_wp2_with fail
    go_loopw [9] (fun ov wr => ∃ (k c2 nn : Nat) (A2 : Option Addr) (ff : List Int → Option Bool), ov = .slice A2 k c2 ∧ Hid (RunT halls ways k) ∧ nn ≤ k * (4 * cntT 25) ∧ Hid (FOk halls ways ff) ∧ Hid (RunB (lensW ways) w (.slice A halls.length d) (.slice B ways.length e) ways.length (w2.heap.size + 1 + 1) (w2.heap.size + 1 + 1 + 1) w2.heap.size nn ff (runT halls ways k).1 A2 k c2 (runT halls ways k).2 wr)) (fun ov _ => 25 - lenV ov)
    case atStart => exact ⟨0, _, _, _, _, rfl, HRZ, Nat.zero_le _, Lib.hid (fun s _ y hy => by cases hy), HI0⟩
    case round =>
      obtain ⟨k, c2, nn, A2, ff, rfl, HRT, hnn, HFF, HRB⟩ := hrel
      have hk24 := HBA.out k HRT.out
      have hP := HP6.out _ HRT.out.good
      have HLN : Hid ((runT halls ways k).1.length = ways.length) := Lib.hid hP.1
      have HPB : Hid (∀ j, j < ways.length → 0 ≤ plc (runT halls ways k).1 j ∧ plc (runT halls ways k).1 j ≤ 1000) := Lib.hid hP.2
      have HLEN2 : Hid ((runT halls ways k).2.length = k) := Lib.hid HRT.out.len
      have hkt : k * (4 * cntT 25) ≤ 24 * (4 * cntT 25) := Nat.mul_le_mul_right _ (by omega)
      have hct := cntT25
      have hb0 := Ow.cell HRB.out.tb (k := 0) (by simp); have hb1 := Ow.cell HRB.out.tb (k := 1) (by simp); have hb2 := Ow.cell HRB.out.tb (k := 2) (by simp)
      simp only [List.getElem_cons_zero, List.getElem_cons_succ] at hb0 hb1 hb2
      have hs0 := HRB.out.sc 0 (by omega); have hs1 := HRB.out.sc 1 (by omega); have hs2 := HRB.out.sc 2 (by omega); have hs3 := HRB.out.sc 3 (by omega)
      have hSM := safeMoves_any _ _ halls ways w HV.out HU.out HTR.out w2.heap.size HLO2.out (runT halls ways k).1 HRT.out.good wr nn ff HRB.out.below HRB.out.mp HFF.out (by omega)
      unfold stV at hSM
      have HSM := Lib.hid hSM
      clear hP hSM
      go_wp2_with fail
      refine HSM.out.mono ?_
      rintro e5 w5 ⟨A5, c5, n5, f5, rfl, hown5, hm5, hf5, hn5, hg5⟩
      have hOF : ∀ {lo sz m : Nat} {e : TypeId} {vv : Value} {cs : List Value}, Ow wr lo e sz vv m cs → Off (fun k => k = w2.heap.size) vv := fun h gg hgg hr => by
        have h9 := HRB.out.mp.ne_row h
        rw [hgg, hr] at h9; exact h9 rfl
      have HRB5 : Hid (RunB (lensW ways) w (.slice A halls.length d) (.slice B ways.length e) ways.length (w2.heap.size + 1 + 1) (w2.heap.size + 1 + 1 + 1) w2.heap.size n5 f5 (runT halls ways k).1 A2 k c2 (runT halls ways k).2 w5) := Lib.hid
        ⟨HRB.out.below.trans (hg5.below (fun j _ hj => by rw [hj]; exact HLO2.out) HRB.out.below.size), HRB.out.tb.off hg5 (hOF HRB.out.tb), HRB.out.sb.off hg5 (hOF HRB.out.sb), hm5, HRB.out.out.off hg5 (hOF HRB.out.out)⟩
      have HF5 := Lib.hid hf5
      have HNN : Hid (n5 ≤ (k + 1) * (4 * cntT 25)) := Lib.hid (by rw [Nat.add_mul, Nat.one_mul]; omega)
      have HOUT : Hid (∀ g, (Value.slice A2 k c2).ownBlock = some g → g < wr.heap.size) := Lib.hid fun g hg => (HRB.out.out.lt g hg).2
      clear hOF hm5 hf5 hn5 hg5 hb0 hb1 hb2 hs0 hs1 hs2 hs3 hct hkt hnn
      cases hsm : safeMT halls ways (runT halls ways k).1 with
      | nil =>
        have hE := HEN.out k HRT.out hsm
        have HF : Hid ((runR halls ways).1 = (runT halls ways k).2) := Lib.hid (by rw [E.out]; exact hE.symm)
        have HL9 : Hid ((runR halls ways).1.length = k) := Lib.hid (by rw [HF.out]; exact HLEN2.out)
        have H29 : Hid ((runR halls ways).2 = 0) := Lib.hid (by rw [E.out])
        clear hsm hE hown5
        go_wp2
        go_ret2
        rw [HL9.out, H29.out, HF.out]
        refine ⟨A2, c2, rfl, ?_, HRB5.out.below⟩
        have h9 := HRB5.out.out
        unfold OwI
        rw [HLEN2.out]; exact h9
      | cons c cs =>
        obtain ⟨cn, hcn, rfl, hrn, hrt⟩ := HGO.out k HRT.out c cs hsm
        have HRN := Lib.hid hrn; have HRT2 := Lib.hid hrt
        rw [hsm] at hown5
        rcases Ow.form hown5 with ⟨_, h0, _⟩ | ⟨g5, c7, hA5, hlo5, hlt5, _⟩
        · simp at h0
        injection hA5 with hA5 hn5 hc5
        clear hn5
        subst hA5 hc5
        have hcell5 := OwI.cell hown5 (k := 0) (by simp)
        simp only [List.getElem_cons_zero] at hcell5
        have HRM : Hid (RunM (lensW ways) w (.slice A halls.length d) (.slice B ways.length e) ways.length (w2.heap.size + 1 + 1) (w2.heap.size + 1 + 1 + 1) w2.heap.size n5 f5 (runT halls ways k).1 g5 (cn : Int) A2 k c2 (runT halls ways k).2 w5) := Lib.hid ⟨HRB5.out, hcell5, fun g hg => by have := HOUT.out g hg; omega⟩
        have hs0 := HRB5.out.sc 0 (by omega); have hs1 := HRB5.out.sc 1 (by omega); have hs2 := HRB5.out.sc 2 (by omega); have hs3 := HRB5.out.sc 3 (by omega)
        have hl5 : (0 : Int) < (((cn : Int) :: cs).length : Int) := by simp
        have hMD := fun W => moved_any (runT halls ways k).1 cn W (by rw [HLN.out]; exact hcn) (by omega) (HPB.out cn hcn).1 (HPB.out cn hcn).2
        unfold stV at hMD
        have HMD := Lib.hid hMD
        clear hMD
        clear hsm hrn hrt hown5 hlo5 hlt5
        have HSZ := Lib.hid HRB5.out.below.size
        have hq0 := fun o => (HRM.out.ex (below_alloc w5 o)).run.sc 0 (by omega); have hq1 := fun o => (HRM.out.ex (below_alloc w5 o)).run.sc 1 (by omega); have hq2 := fun o => (HRM.out.ex (below_alloc w5 o)).run.sc 2 (by omega); have hq3 := fun o => (HRM.out.ex (below_alloc w5 o)).run.sc 3 (by omega)
        have hqm := fun o => (HRM.out.ex (below_alloc w5 o)).mc
        have HN2 : Hid (nxS (runT halls ways k).1 (cn : Int) = (runT halls ways k).1.set cn (plc (runT halls ways k).1 cn + 1)) := Lib.hid rfl
        go_wp2
        go_region_law (first | (refine step_app1 _ (by rfl) _ _ _ (by rfl) w.heap.size 2 (.int .i64 0) 1 8 Try.underlying31 infoI64 rfl (by omega) (.slice A2 k c2) k _ (by rfl) (HRM.out.ex (by first | exact (below_alloc _ _).drew | exact below_alloc _ _ | exact (Below.refl _ _).drew.alloc (by simp) _)).run.out w5.heap.size 1 [.int .i64 cn] (by rfl) rfl (by intro j u hj; match j, hj with | 0, hj => (simp at hj; subst hj; simp) | j + 1, hj => simp at hj) (by intro u hu; simp at hu; subst hu; rfl) (by omega) (by omega) (by have := HSZ.out; simp; omega) ?_; intro g7 c7 w7 ho7 hg7 hor7 hlt7; have HRM := Lib.hid (RunM.app (HRM.out.ex (by first | exact (below_alloc _ _).drew | exact below_alloc _ _ | exact (Below.refl _ _).drew.alloc (by simp) _)) ho7 hg7 hor7); have hs0 := HRM.out.run.sc 0 (by omega); have hs1 := HRM.out.run.sc 1 (by omega); have hs2 := HRM.out.run.sc 2 (by omega); have hs3 := HRM.out.run.sc 3 (by omega); have hm0 := HRM.out.mc; clear ho7 hg7 hor7 hlt7) | (go_simp; go_at_call 78; refine (HMD.out _).mono ?_; rintro eA wA ⟨rfl, hbA⟩; have HRM := Lib.hid (HRM.out.ex (by first | exact hbA | exact below_next0 (Below.refl _ _).drew hbA)); have hs0 := HRM.out.run.sc 0 (by omega); have hs1 := HRM.out.run.sc 1 (by omega); have hs2 := HRM.out.run.sc 2 (by omega); have hs3 := HRM.out.run.sc 3 (by omega); have hf0 := Ow.free HRM.out.run.sb 0; have hf1 := Ow.free HRM.out.run.sb 1; have hf2 := Ow.free HRM.out.run.sb 2; have hf3 := Ow.free HRM.out.run.sb 3))
        all_goals
          have HST := Lib.hid (HRM.out.run.store ((runT halls ways k).1.set cn (plc (runT halls ways k).1 cn + 1)))

          clear hs0 hs1 hs2 hs3 hf0 hf1 hf2 hf3
          go_wp2
          go_roundw
          case rel => exact ⟨k + 1, _, n5, _, f5, rfl, HRT2, HNN.out, HF5, Lib.hid (by rw [HRN.out]; exact HST.out)⟩
          case measure => simp [lenV]; omega
end Go.Proofs.Ytegabdhmfemgkaa
