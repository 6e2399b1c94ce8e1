/-
SafeRun of the reference. Condition: the slices read as lists.
-/
import Derived.Test.YtegabdhmfemgkaaPolS
namespace Go.Proofs.Ytegabdhmfemgkaa
open Go.RowKit
set_option linter.unusedVariables false

def runR (halls : List Int) (ways : List (List Int)) : List Int × Int := if travOk halls ways = true then ((runT halls ways 24).2, 0) else ([], 1)
def lenV : Value → Nat
  | .slice _ n _ => n
  | _ => 0
theorem runT_end {halls : List Int} {ways : List (List Int)} (ht : travOk halls ways = true) {k : Nat} (h : RunT halls ways k) (hd : doneS ways (runT halls ways k).1 = true) : (runT halls ways k).2 = (runT halls ways 24).2 := by
  have he := (safe_ends (mv := movesL halls ways 4) mvOk_moves (lens5 ht) (lens4 ht) (fun s _ hd => done_moves hd) h.good h.safe).2 hd
  exact RunOk.fin (lens5 ht) (lens4 ht) h he
theorem runT_go {halls : List Int} {ways : List (List Int)} (ht : travOk halls ways = true) {k : Nat} (h : RunT halls ways k) (hd : doneS ways (runT halls ways k).1 = false) :
    ∃ (cn : Nat) (cs : List Int), cn < ways.length ∧ safeMT halls ways (runT halls ways k).1 = (cn : Int) :: cs ∧ runT halls ways (k + 1) = (nxS (runT halls ways k).1 cn, (runT halls ways k).2 ++ [(cn : Int)]) ∧ RunT halls ways (k + 1) := by
  have he := safe_ends (mv := movesL halls ways 4) mvOk_moves (lens5 ht) (lens4 ht) (fun s _ hd => done_moves hd) h.good h.safe
  cases hm : safeMT halls ways (runT halls ways k).1 with
  | nil =>
    have := he.1 hm
    unfold runT at hd
    rw [this] at hd; cases hd
  | cons c cs =>
    have hc : c ∈ safeMT halls ways (runT halls ways k).1 := by rw [hm]; simp
    obtain ⟨cn, hcn, hck, _⟩ := mem_moves.1 (List.mem_filter.1 hc).1
    subst hck
    exact ⟨cn, cs, hcn, rfl, runK_go hm, RunOk.next mvOk_moves h hm⟩

set_option maxRecDepth 100000 in
set_option maxHeartbeats 4000000 in
theorem specSafeRun_any (v u : Value) (halls : List Int) (ways : List (List Int)) (w : World) (hv : SlI w v halls) (hu : SlII w u ways) :
    Calls Try.prog 50 #[v, u] w fun e w' => ∃ A c, e = .returned (.tuple #[.slice A (runR halls ways).1.length c, .int .i64 (runR halls ways).2]) ∧ OwI w' w.heap.size (.slice A (runR halls ways).1.length c) (runR halls ways).1 ∧ Below w.heap.size w w' := by
  have HV := Lib.hid hv; have HU := Lib.hid hu
  obtain ⟨A, d, rfl, hla, ha⟩ := hv.op
  obtain ⟨B, e, rfl, hlb, hat⟩ := hu.op
  clear hv hu ha hat
  have HR : Hid (runR halls ways = if travOk halls ways = true then ((runT halls ways 24).2, 0) else ([], 1)) := Lib.hid rfl
  have HNIL : Hid (∀ W : World, OwI W w.heap.size (.slice none 0 0) []) := Lib.hid fun W => ⟨World.ownsRow_nil _ _ _ _, by simp⟩
  go_enter Try.func50, Try.ntmps50
  go_wp2_with fail
  refine (l12Ok_any _ _ halls ways _ HV.out HU.out).mono ?_
  rintro e1 w1 ⟨rfl, hb1⟩
  have HB1 := Lib.hid hb1
  clear hb1
  cases ht : travOk halls ways with
  | false =>
    have E : Hid (runR halls ways = ([], 1)) := Lib.hid (by rw [HR.out, ht]; rfl)
    clear ht
    go_wp2
    go_ret2
    rw [E.out]
    exact ⟨none, 0, rfl, HNIL.out _, HB1.out⟩
  | true =>
    have HTR := Lib.hid ht
    have E : Hid (runR halls ways = ((runT halls ways 24).2, 0)) := Lib.hid (by rw [HR.out, ht]; rfl)
    obtain ⟨_, _, h4, hway⟩ := travOk_at ht
    have HLO1 := Lib.hid HB1.out.size
    have HBA : Hid (∀ k, RunT halls ways k → k ≤ 24) := Lib.hid fun k h => RunOk.le (lens5 ht) (lens4 ht) h
    have HEN := Lib.hid (fun k h hd => @runT_end halls ways ht k h hd)
    have HGO := Lib.hid (fun k h hd => @runT_go halls ways ht k h hd)
    have HRZ := Lib.hid (runT_zero ht)
    have HP6 : Hid (∀ s, Good (lensW ways) s → s.length = ways.length ∧ ∀ k, k < ways.length → 0 ≤ plc s k ∧ plc s k ≤ 1000) := Lib.hid fun s hs => by
      obtain ⟨h1, h2⟩ := hs.at_
      refine ⟨h1, fun k hk => ?_⟩
      have h3 := h2 k hk
      have h5 := (wayOk_at (hway _ (List.getElem_mem hk))).1
      omega
    clear ht hway
    go_wp2_with (first | (at_make; refine wpList_make1 w1 rfl (.const (.int .i64 2401)) (.const (.int .i64 2401)) _ rfl w.heap.size 5 (.int .u8 0) 1 Try.underlying29 infoU8 rfl .i64 .i64 2401 rfl rfl (by omega) (by omega) HLO1.out ?_; intro w2 hown hb hsz; have HK2 : Hid (Ow w2 w.heap.size 5 1 (.slice (some ⟨w1.heap.size, 0, none⟩) 2401 2401) 2401 ((List.replicate 2401 (0 : Int)).map (Value.int .u8))) := Lib.hid (by rw [List.map_replicate]; exact hown); have HB2 := Lib.hid (below_next0 HB1.out hb); clear hown hb hsz) | (at_make; refine wpList_make1 w2 rfl (.tmp 16) (.tmp 16) _ rfl w.heap.size 2 (.int .i64 0) 8 Try.underlying31 infoI64 rfl .i64 .i64 ways.length rfl rfl (by omega) (by omega) HB2.out.size ?_; intro w3 hown hb hsz; have HP3 : Hid (Ow w3 w.heap.size 2 1 (.slice (some ⟨w2.heap.size, 0, none⟩) ways.length ways.length) ways.length ((zeroS ways.length).map (Value.int .i64))) := Lib.hid (by unfold zeroS; rw [List.map_replicate]; exact hown); have HB3 := Lib.hid (below_next0 HB2.out hb); have HK3 := Lib.hid (HK2.out.ex hb); clear hown hb hsz) | fail)
    have hbE := below_alloc w3 (.cells #[] 2)
    have HK4 := Lib.hid (HK3.out.ex hbE); have HP4 := Lib.hid (HP3.out.ex hbE)
    have HEM : Hid (OwI (w3.alloc (.cells #[] 2)) w.heap.size (.slice (some ⟨w3.heap.size, 0, none⟩) 0 0) []) := Lib.hid (owI_empty w3 w.heap.size HB3.out.size)
    have HS4 : Hid (Sep (.slice (some ⟨w2.heap.size, 0, none⟩) ways.length ways.length) (.slice (some ⟨w3.heap.size, 0, none⟩) 0 0)) := Lib.hid (Ow.sep_new HP3.out (owI_empty w3 w3.heap.size (Nat.le_refl _)) (Nat.le_refl _))
    have HB4 := Lib.hid (below_next0 HB3.out hbE)
    clear hbE
    go_loopw [7, 8] (fun pv ov wr => ∃ (k cp c2 : Nat) (Ap A2 : Option Addr) (ks' : List Int), pv = .slice Ap ways.length cp ∧ ov = .slice A2 k c2 ∧ Hid (RunT halls ways k) ∧ Hid (Ow wr w.heap.size 2 1 (.slice Ap ways.length cp) ways.length ((runT halls ways k).1.map (Value.int .i64))) ∧ Hid (OwI wr w.heap.size (.slice A2 k c2) (runT halls ways k).2) ∧ Hid (Ow wr w.heap.size 5 1 (.slice (some ⟨w1.heap.size, 0, none⟩) 2401 2401) 2401 (ks'.map (Value.int .u8))) ∧ Hid (KnOk halls ways (k : Int) ks') ∧ Hid (Sep (.slice Ap ways.length cp) (.slice A2 k c2)) ∧ Hid (Below w.heap.size w wr)) (fun _ ov _ => 25 - lenV ov)
    case atStart => exact ⟨0, _, _, _, _, _, rfl, rfl, HRZ, HP4, HEM, HK4, Lib.hid (knOk_zero halls ways _), HS4, HB4⟩
    case round =>
      obtain ⟨k, cp, c2, Ap, A2, ks', rfl, rfl, HRT, HPR, HOR, HKR, HKO, HSP, HBR⟩ := hrel
      have hk24 := HBA.out k HRT.out
      have hP := HP6.out _ HRT.out.good
      have HLN : Hid ((runT halls ways k).1.length = ways.length) := Lib.hid hP.1
      have HPB : Hid (∀ j, j < ways.length → 0 ≤ plc (runT halls ways k).1 j ∧ plc (runT halls ways k).1 j ≤ 1000) := Lib.hid hP.2
      have HSL : Hid (SlI wr (.slice Ap ways.length cp) (runT halls ways k).1) := Lib.hid (by
        have h9 := HPR.out.sl
        unfold SlI
        rw [show (runT halls ways k).1.length = ways.length from HLN.out]; exact h9)
      have HLEN2 : Hid ((runT halls ways k).2.length = k) := Lib.hid HRT.out.len
      clear hP
      go_wp2_with fail
      refine (l12Done_any _ _ ways _ wr (HU.out.ex HBR.out) HSL.out HLN.out).mono ?_
      rintro e5 w5 ⟨rfl, hb5⟩
      have HB5 := Lib.hid (below_next0 HBR.out hb5)
      have HP5 := Lib.hid (HPR.out.ex hb5); have HO5 := Lib.hid (OwI.ex HOR.out hb5); have HK5 := Lib.hid (HKR.out.ex hb5)
      have HSL5 := Lib.hid (HSL.out.ex hb5)
      clear hb5
      cases hd : doneS ways (runT halls ways k).1 with
      | true =>
        have hE := HEN.out k HRT.out hd
        have HF : Hid ((runR halls ways).1 = (runT halls ways k).2) := Lib.hid (by rw [E.out]; exact hE.symm)
        have HL9 : Hid ((runR halls ways).1.length = k) := Lib.hid (by rw [HF.out]; exact HLEN2.out)
        have H29 : Hid ((runR halls ways).2 = 0) := Lib.hid (by rw [E.out])
        clear hd hE
        go_wp2
        go_ret2
        rw [HL9.out, H29.out, HF.out]
        exact ⟨A2, c2, rfl, HO5.out, HB5.out⟩
      | false =>
        obtain ⟨cn, cs, hcn, hsm, hrn, hrt⟩ := HGO.out k HRT.out hd
        have HRN := Lib.hid hrn; have HRT2 := Lib.hid hrt; have HSM := Lib.hid hsm
        have hpc := HPB.out cn hcn
        have HOF : Hid (0 < (runT halls ways k).1.length → Off (fun k => k = w1.heap.size) (.slice Ap ways.length cp)) := Lib.hid fun _ gg hgg hr => by
          have h9 := Ow.sep_type HP5.out HK5.out (by decide)
          rcases h9 with h9 | h9
          · rw [h9] at hgg; cases hgg
          · rw [hgg, hr] at h9; exact h9 rfl
        have HOF2 : Hid (Off (fun k => k = w1.heap.size) (.slice A2 k c2)) := Lib.hid fun gg hgg hr => by
          have h9 := Ow.sep_type HO5.out HK5.out (by decide)
          rcases h9 with h9 | h9
          · rw [h9] at hgg; cases hgg
          · rw [hgg, hr] at h9; exact h9 rfl
        have HKO5 : Hid (KnOk halls ways ((runT halls ways k).1.sum + 1) ks') := Lib.hid (HKO.out.up (by rw [show (runT halls ways k).1.sum = (k : Int) from HRT.out.sum]; omega))
        have HSUM : Hid ((runT halls ways k).1.sum = (k : Int)) := Lib.hid HRT.out.sum
        clear hd hsm hrn hrt
        go_wp2_with fail
        refine (l12SafeMoves_any _ _ halls ways w HV.out HU.out HTR.out w1.heap.size 2401 HLO1.out (runT halls ways k).1 HRT.out.good _ ks' w5 HSL5.out HOF.out HB5.out HKO5.out HK5.out).mono ?_
        rintro e6 w6 ⟨A6, c6, ks6, rfl, hown6, hko6, hkr6, hg6⟩
        have HB6 := Lib.hid (HB5.out.trans (hg6.below (fun j _ hj => by rw [hj]; exact HLO1.out) HB5.out.size))
        have HP6' := Lib.hid (HP5.out.off hg6 (fun gg hgg hr => by
          by_cases h0 : 0 < (runT halls ways k).1.length
          · exact HOF.out h0 gg hgg hr
          · have h9 := Ow.sep_type HP5.out HK5.out (by decide)
            rcases h9 with h9 | h9
            · rw [h9] at hgg; cases hgg
            · rw [hgg, hr] at h9; exact h9 rfl))
        have HO6 := Lib.hid (Ow.off HO5.out hg6 HOF2.out)
        have HK6 := Lib.hid hkr6; have HKO6 := Lib.hid hko6
        rw [HSM.out] at hown6
        rcases Ow.form hown6 with ⟨_, h0, _⟩ | ⟨g6, c7, hA6, _, _, _⟩
        · simp at h0
        injection hA6 with hA6 hn6 hc6
        clear hn6
        subst hA6 hc6
        have hcell6 := OwI.cell hown6 (k := 0) (by simp)
        simp only [List.getElem_cons_zero] at hcell6
        rw [HSM.out]
        clear hown6 hko6 hkr6 hg6
        have hl6 : (0 : Int) < (((cn : Int) :: cs).length : Int) := by simp
        have HLN7 := Lib.hid HLN.out
        go_wp2_with (first | (at_builtin; refine wpList_appI w6 rfl (.tmp 30) (.tmp 32) rfl w.heap.size w.heap.size w A2 k c2 _ _ _ _ rfl HO6.out HLEN2.out rfl HB6.out (Nat.le_refl _) HB6.out.size (by omega) ?_; intro A8 c8 w8 hown8 hg8 hsz8 hb8; have HO8 := Lib.hid hown8; have HB8 := Lib.hid hb8; have HP8 := Lib.hid (Ow.keptS HP6'.out hg8 HSP.out); have HK8 := Lib.hid (Ow.keptS HK6.out hg8 (Ow.sep_type HK6.out HO6.out (by decide))); clear hown8 hg8 hsz8 hb8) | fail)
        have HSL8 : Hid (SlI w8 (.slice Ap ways.length cp) (runT halls ways k).1) := Lib.hid (by
          have h9 := HP8.out.sl
          unfold SlI
          rw [show (runT halls ways k).1.length = ways.length from HLN.out]; exact h9)
        have HNX := Lib.hid (l12Next_any _ (runT halls ways k).1 cn w8 HSL8.out (by rw [HLN.out]; exact hcn) (by rw [HLN.out]; omega) hpc)
        rw [HLN.out] at HNX
        refine HNX.out.mono ?_
        rintro e9 w9 ⟨A9, c9, rfl, hown9, hb9⟩
        have HO9 := Lib.hid (OwI.ex HO8.out hb9)
        have HK9 := Lib.hid (HK8.out.ex hb9)
        have HS9 : Hid (Sep (.slice A9 ways.length c9) (.slice A8 (k + 1) c8)) := Lib.hid (Ow.sep_new' HO8.out hown9 (Nat.le_refl _))
        have HP9 : Hid (Ow w9 w.heap.size 2 1 (.slice A9 ways.length c9) ways.length ((runT halls ways (k + 1)).1.map (Value.int .i64))) := Lib.hid (by
          have h9 := hown9.mono HB8.out.size
          unfold OwI at h9
          rw [show (nxS (runT halls ways k).1 (cn : Int)).length = ways.length by simp [nxS, HLN.out]] at h9
          rw [HRN.out]; exact h9)
        have HB9 := Lib.hid (below_next HB8.out HB8.out.size hb9)
        have HO9' : Hid (OwI w9 w.heap.size (.slice A8 (k + 1) c8) (runT halls ways (k + 1)).2) := Lib.hid (by rw [HRN.out]; exact HO9.out)
        have HKO9 : Hid (KnOk halls ways ((k + 1 : Nat) : Int) ks6) := Lib.hid (by
          have h9 := HKO6.out
          rw [HSUM.out] at h9
          simpa using h9)
        clear hown9 hb9
        go_wp2
        go_roundw
        case rel => exact ⟨k + 1, c9, c8, A9, A8, ks6, rfl, rfl, HRT2, HP9, HO9', HK9, HKO9, HS9, HB9⟩
        case measure => simp [lenV]; omega
end Go.Proofs.Ytegabdhmfemgkaa
