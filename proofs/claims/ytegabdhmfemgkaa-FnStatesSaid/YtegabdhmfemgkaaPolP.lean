/-
safeMoves of the program; IsSafe and SafeMoves. Condition: the slices read as lists.
-/
import Derived.Test.YtegabdhmfemgkaaPolO
namespace Go.Proofs.Ytegabdhmfemgkaa
open Go.RowKit
set_option linter.unusedVariables false

theorem MapB.exB {ls : List Nat} {w w' : World} {b n B : Nat} {f : List Int → Option Bool} (h : MapB ls w b n f) (hb : Below B w w') (hlt : b < B) : MapB ls w' b n f := by
  obtain ⟨D, ⟨es, clock, hb0, r⟩, h2⟩ := h
  exact ⟨D, ⟨es, clock, by rw [hb.block b hlt]; exact hb0, r⟩, h2⟩
theorem GrS.ofBelowB {w w' : World} {B : Nat} (hb : Below B w w') (hs : B ≤ w.heap.size) : GrS (fun i => B ≤ i) w w' := ⟨hb.os, hb.tape, hb.output, hb.size, fun k hk hn => hb.block k (by omega)⟩
theorem plOk_good {halls : List Int} {ways : List (List Int)} {pl : List Int} (h : plOk halls ways pl = true) : Good (lensW ways) pl := by
  simp only [plOk, Bool.and_eq_true, decide_eq_true_eq] at h
  obtain ⟨⟨h1, h2⟩, h3⟩ := h
  refine ⟨by rw [h1, lensW_len], fun k hk => ?_⟩
  have hk' : k < ways.length := by rwa [lensW_len] at hk
  have := plFit_at h2 hk'
  simpa [lensW] using this
def safeMT (halls : List Int) (ways : List (List Int)) (s : List Int) : List Int := safeMv (movesL halls ways 4) (doneS ways) s
def safeMK (halls : List Int) (ways : List (List Int)) (s : List Int) (k : Nat) : List Int := safeMvK (movesL halls ways 4) (doneS ways) s k
theorem safeMK_yes {halls : List Int} {ways : List (List Int)} {s : List Int} {k : Nat} (hk : k < (movesL halls ways 4 s).length) (h : safeT halls ways (nxS s (movesL halls ways 4 s)[k]) = true) : safeMK halls ways s (k + 1) = safeMK halls ways s k ++ [(movesL halls ways 4 s)[k]] := by
  unfold safeMK; rw [safeMvK_succ hk]; exact if_pos h
theorem safeMK_no {halls : List Int} {ways : List (List Int)} {s : List Int} {k : Nat} (hk : k < (movesL halls ways 4 s).length) (h : safeT halls ways (nxS s (movesL halls ways 4 s)[k]) = false) : safeMK halls ways s (k + 1) = safeMK halls ways s k := by
  unfold safeMK; rw [safeMvK_succ hk]; exact if_neg (by unfold safeT at h; rw [h]; decide)
theorem safeMK_all (halls : List Int) (ways : List (List Int)) (s : List Int) : safeMK halls ways s (movesL halls ways 4 s).length = safeMT halls ways s := safeMvK_all
theorem safeMK_len (halls : List Int) (ways : List (List Int)) (s : List Int) (k : Nat) : (safeMK halls ways s k).length ≤ k := safeMvK_len _ _ _ _
theorem cntT25 : cntT 25 ≤ 1000000000000000 := by decide +kernel

set_option maxRecDepth 100000 in
set_option maxHeartbeats 4000000 in
theorem safeMoves_any (v u : Value) (halls : List Int) (ways : List (List Int)) (w0 : World) (hv : SlI w0 v halls) (hu : SlII w0 u ways) (ht : travOk halls ways = true) (b : Nat) (hlo : w0.heap.size ≤ b)
    (s : List Int) (hs : Good (lensW ways) s) (w : World) (n : Nat) (f : List Int → Option Bool) (hb0 : Below w0.heap.size w0 w) (hmap : MapB (lensW ways) w b n f) (hf : FOk halls ways f) (hn : n + 4 * cntT 25 ≤ 4611686018427387904) :
    Calls Try.prog 77 #[.agg #[v, u, .int .i64 ways.length], stV s, .map (some b)] w fun e w' => ∃ (A : Option Addr) (c n' : Nat) (f' : List Int → Option Bool), e = .returned (.slice A (safeMT halls ways s).length c) ∧ OwI w' w.heap.size (.slice A (safeMT halls ways s).length c) (safeMT halls ways s) ∧ MapB (lensW ways) w' b n' f' ∧ FOk halls ways f' ∧ n' ≤ n + 4 * cntT 25 ∧ GrS (fun k => k = b) w w' := by
  obtain ⟨hsl, hsp⟩ := hs.at_
  obtain ⟨_, _, h4, hway⟩ := travOk_at ht
  have hp6 : ∀ k, k < ways.length → 0 ≤ plc s k ∧ plc s k ≤ 1000 := fun k hk => by
    have h1 := hsp k hk
    have h2 := (wayOk_at (hway _ (List.getElem_mem hk))).1
    omega
  have hblt := hmap.lt
  have hMV := fun (W : World) (hW : Below w0.heap.size w0 W) => moves_any v u halls ways s (ways.length : Int) W (hv.ex hW) (hu.ex hW) hsl ht hp6
  have hMD := fun (c : Nat) (hc : c < ways.length) (W : World) => moved_any s c W (by omega) (by omega) (hp6 c hc).1 (hp6 c hc).2
  simp only [movesL_most h4] at hMV
  have HV := Lib.hid hv; have HU := Lib.hid hu; have HTR := Lib.hid ht
  obtain ⟨A, d, rfl, hla, ha⟩ := hv.op
  obtain ⟨B, e, rfl, hlb, hat⟩ := hu.op
  have HM := Lib.hid (hmap.ex (below_alloc2 w (.cells #[.slice A halls.length d, .slice B ways.length e, .int .i64 ways.length] 69) (.cells #[.int .i64 (plc s 0), .int .i64 (plc s 1), .int .i64 (plc s 2), .int .i64 (plc s 3)] 86)))
  have HB := Lib.hid (below_alloc2 w (.cells #[.slice A halls.length d, .slice B ways.length e, .int .i64 ways.length] 69) (.cells #[.int .i64 (plc s 0), .int .i64 (plc s 1), .int .i64 (plc s 2), .int .i64 (plc s 3)] 86))
  have HQ := Lib.hid (boxT w (.slice A halls.length d) (.slice B ways.length e) ways.length s 69 86)
  have HB0 := Lib.hid (hb0.trans (HB.out.mono hb0.size))
  have HS := Lib.hid hs
  unfold stV at hMV hMD
  have HMV := Lib.hid hMV; have HMD := Lib.hid hMD
  have HF := Lib.hid hf
  have HYES := Lib.hid (fun k h => @safeMK_yes halls ways s k h)
  have HNO := Lib.hid (fun k h => @safeMK_no halls ways s k h)
  have HALL := Lib.hid (safeMK_all halls ways s)
  have HSL := Lib.hid (safeMK_len halls ways s)
  have HMM := Lib.hid (fun c => @mem_moves halls ways 4 s c)
  have HML := Lib.hid (movesK_len halls ways 4 s ways.length)
  have HNX : Hid (∀ k : Nat, (hk : k < ways.length) → (k : Int) ∈ movesL halls ways 4 s → Good (lensW ways) (nxS s k) ∧ (nxS s k).sum = s.sum + 1) := Lib.hid fun k hk hm => ⟨good_nx mvOk_moves hs hm, sum_nx mvOk_moves hs hm⟩
  have HSM := Lib.hid (hs.sum (lens5 ht) (lens4 ht)).1
  have HBW := Lib.hid hb0
  have HEB := Lib.hid (below_alloc ((w.alloc (.cells #[.slice A halls.length d, .slice B ways.length e, .int .i64 ways.length] 69)).alloc (.cells #[.int .i64 (plc s 0), .int .i64 (plc s 1), .int .i64 (plc s 2), .int .i64 (plc s 3)] 86)) (.cells #[] 2))
  have HEM : Hid (OwI (((w.alloc (.cells #[.slice A halls.length d, .slice B ways.length e, .int .i64 ways.length] 69)).alloc (.cells #[.int .i64 (plc s 0), .int .i64 (plc s 1), .int .i64 (plc s 2), .int .i64 (plc s 3)] 86)).alloc (.cells #[] 2)) (w.heap.size + 2) (.slice (some ⟨w.heap.size + 1 + 1, 0, none⟩) 0 0) []) := Lib.hid (by simpa using owI_empty ((w.alloc (.cells #[.slice A halls.length d, .slice B ways.length e, .int .i64 ways.length] 69)).alloc (.cells #[.int .i64 (plc s 0), .int .i64 (plc s 1), .int .i64 (plc s 2), .int .i64 (plc s 3)] 86)) (w.heap.size + 2) (by simp))
  have HBE := Lib.hid (below_next HB0.out HB0.out.size HEB.out)
  have HXE := Lib.hid (HQ.out.ex HEB.out)
  have HME := Lib.hid (HM.out.ex HEB.out)
  have HGE : Hid (GrS (fun k => k = b) w (((w.alloc (.cells #[.slice A halls.length d, .slice B ways.length e, .int .i64 ways.length] 69)).alloc (.cells #[.int .i64 (plc s 0), .int .i64 (plc s 1), .int .i64 (plc s 2), .int .i64 (plc s 3)] 86)).alloc (.cells #[] 2))) := Lib.hid ((GrS.ofBelow HB.out).trans (GrS.ofBelow HEB.out))
  have hc0 := HXE.out.c0; have hc1 := HXE.out.c1; have hc2 := HXE.out.c2; have hs0 := HXE.out.s 0 (by omega); have hs1 := HXE.out.s 1 (by omega); have hs2 := HXE.out.s 2 (by omega); have hs3 := HXE.out.s 3 (by omega)
  have HMV1 := Lib.hid (HMV.out _ HBE.out)
  unfold stV
  clear hv hu ha hat hf hmap hb0 hs hsp hsl hway hp6 hMV hMD ht
  go_enter Try.func77, Try.ntmps77
  go_wp2_with fail
  refine HMV1.out.mono ?_
  rintro e2 w2 ⟨A1, c1, rfl, hown, hb2⟩
  have HX2 := Lib.hid (HXE.out.ex hb2)
  have HM2 := Lib.hid (HME.out.ex hb2)
  have HE2 := Lib.hid (HEM.out.ex hb2)
  have HG2 : Hid (GrS (fun k => k = b) w w2) := Lib.hid (HGE.out.trans (GrS.ofBelow hb2))
  have HOF : Hid (Off (fun k => k = b) (.slice A1 (movesL halls ways 4 s).length c1)) := Lib.hid (Off.new hown (fun k hk => by rw [hk]; exact HME.out.lt))
  have HSEP0 : Hid (Sep (.slice A1 (movesL halls ways 4 s).length c1) (.slice (some ⟨w.heap.size + 1 + 1, 0, none⟩) 0 0)) := Lib.hid (Ow.sep_type hown HE2.out (by decide))
  have HOW := Lib.hid hown
  have HNR : Hid (¬ (w.heap.size = b) ∧ ¬ (w.heap.size + 1 = b)) := Lib.hid ⟨by omega, by omega⟩
  have hml : (movesL halls ways 4 s).length ≤ 4 := by have := HML.out; unfold movesL; omega
  clear hc0 hc1 hc2 hs0 hs1 hs2 hs3 hb2 hown
  go_wp2
  go_loopw [7, 15] (fun ov i wr => ∃ (k nn n2 : Nat) (ff : List Int → Option Bool) (A2 : Option Addr) (c2 : Nat), k ≤ (movesL halls ways 4 s).length ∧ i = .int .i64 k ∧ ov = .slice A2 n2 c2 ∧ n2 ≤ k ∧ nn ≤ n + k * cntT 25 ∧ Hid ((safeMK halls ways s k).length = n2) ∧ Hid (OwI wr (w.heap.size + 2) (.slice A2 n2 c2) (safeMK halls ways s k)) ∧ Hid (MapB (lensW ways) wr b nn ff) ∧ Hid (FOk halls ways ff) ∧ Hid (BoxT wr w.heap.size (.slice A halls.length d) (.slice B ways.length e) ways.length s) ∧ Hid (OwN wr (w.heap.size + 2) (.slice A1 (movesL halls ways 4 s).length c1) (movesL halls ways 4 s)) ∧ Hid (Sep (.slice A1 (movesL halls ways 4 s).length c1) (.slice A2 n2 c2)) ∧ Hid (GrS (fun k => k = b) w wr)) (fun _ i _ => (movesL halls ways 4 s).length - (intOf i).toNat)
  case atStart => exact ⟨0, n, 0, f, _, 0, Nat.zero_le _, rfl, rfl, Nat.le_refl _, by omega, Lib.hid (by simp [safeMK, safeMvK]), by simpa [safeMK, safeMvK] using HE2, HM2, HF, HX2, Lib.hid (HOW.out.mono (by simp)), HSEP0, HG2⟩
  case round =>
    obtain ⟨k, nn, n2, ff, A2, c2, hk, rfl, rfl, hn2, hnn, HL2, HOO, HMR, HFR, HXR, HOR, HSP, HGR⟩ := hrel
    have HBR := Lib.hid (HBW.out.trans (HGR.out.below (fun j _ hj => by rw [hj]; exact hlo) HBW.out.size))
    have HBX : Hid (∀ W, Below wr.drew.heap.size wr.drew W → Below w0.heap.size w0 W) := Lib.hid fun W hW => below_next HBR.out HBR.out.size (below_next0 (Below.refl _ _).drew hW)
    have HMX : Hid (∀ W, Below wr.drew.heap.size wr.drew W → MapB (lensW ways) W b nn ff) := Lib.hid fun W hW => HMR.out.ex (below_next0 (Below.refl _ _).drew hW)
    have HCJ := Lib.hid (BoxT.conj (R := fun k => k = b) HXR.out)
    have hc0 := HXR.out.c0; have hc1 := HXR.out.c1; have hc2 := HXR.out.c2; have hs0 := HXR.out.s 0 (by omega); have hs1 := HXR.out.s 1 (by omega); have hs2 := HXR.out.s 2 (by omega); have hs3 := HXR.out.s 3 (by omega)
    have hkt : k * cntT 25 ≤ 4 * cntT 25 := Nat.mul_le_mul_right _ (by omega)
    by_cases hlt : k < (movesL halls ways 4 s).length
    · have hki : (k : Int) < ((movesL halls ways 4 s).length : Int) := by omega
      have hmem := List.getElem_mem hlt
      obtain ⟨cn, hcn, hck, _⟩ := (HMM.out _).1 hmem
      obtain ⟨hgn, hsm⟩ := HNX.out cn hcn (by rw [← hck]; exact hmem)
      have HGN := Lib.hid hgn
      have HYE := Lib.hid (HYES.out k hlt); have HNE := Lib.hid (HNO.out k hlt)
      have hsm0 := HSM.out
      rcases Ow.form HOR.out with ⟨_, h0, _⟩ | ⟨g1, c4, hA2, _, hlt1, _⟩
      · omega
      injection hA2 with hA2 hn9 hc9
      clear hn9
      subst hA2 hc9
      have hcell := Ow.cell HOR.out (k := k) (by simpa using hlt)
      rw [List.getElem_map, hck] at hcell
      rw [hck] at HYE HNE
      have hkt2 : k * cntT 25 + cntT 25 ≤ 4 * cntT 25 := by
        have h9 := Nat.mul_le_mul_right (cntT 25) (show k + 1 ≤ 4 by omega)
        rwa [Nat.add_mul, Nat.one_mul] at h9
      clear hck hmem hgn hlt1
      go_wp2
      go_region_held3 (fun w' => w'.cell? ⟨w.heap.size, 0, none⟩ = some (.slice A halls.length d) ∧ w'.cell? ⟨w.heap.size, 1, none⟩ = some (.slice B ways.length e) ∧ w'.cell? ⟨w.heap.size, 2, none⟩ = some (.int .i64 ways.length) ∧ w'.cell? ⟨w.heap.size + 1, 0, none⟩ = some (.int .i64 (plc s 0)) ∧ w'.cell? ⟨w.heap.size + 1, 1, none⟩ = some (.int .i64 (plc s 1)) ∧ w'.cell? ⟨w.heap.size + 1, 2, none⟩ = some (.int .i64 (plc s 2)) ∧ w'.cell? ⟨w.heap.size + 1, 3, none⟩ = some (.int .i64 (plc s 3)) ∧ GrS (fun k => k = b) wr w') (first | (exact keep7 (by assumption) hn7 HNR.out) | (exact keep7 HCJ.out (GrS.ofBelow (Below.refl _ _).drew) HNR.out)) (first | (go_at_call 78; refine (HMD.out cn hcn _).mono ?_; rintro eA wA ⟨rfl, hbA⟩; have hn7 : GrS (fun k => k = b) _ wA := GrS.ofBelow hbA) | (go_at_call 81; refine (isSafe_any _ _ halls ways w0 HV.out HU.out HTR.out b hlo 25 (nxS s cn) HGN.out (by omega) wA nn ff (HBX.out _ hbA) (HMX.out _ hbA) HFR.out (by omega)).mono ?_; rintro eB wB ⟨n7, f7, rfl, hm7, hf7, hnn7, hg7⟩; have hn7 := hg7))
      have hgx : GrS (fun k => k = b) wr wB := ((GrS.ofBelow (Below.refl _ _).drew).trans (GrS.ofBelow hbA)).trans hg7
      have HM7 := Lib.hid hm7; have HF7 := Lib.hid hf7
      have HG7 := Lib.hid (HGR.out.trans hgx)
      have HX7 := Lib.hid (HXR.out.off hgx HNR.out)
      have HO7 := Lib.hid (Ow.off HOR.out hgx HOF.out)
      have HOFF2 : Hid (Off (fun k => k = b) (.slice A2 n2 c2)) := Lib.hid (Off.new HOO.out (fun k hk => by rw [hk]; omega))
      have HOO7 := Lib.hid (Ow.off HOO.out hgx HOFF2.out)
      have HN7 : Hid (n7 ≤ n + (k + 1) * cntT 25) := Lib.hid (by rw [Nat.add_mul, Nat.one_mul]; omega)
      have HSZ : Hid (w.heap.size + 2 ≤ wB.heap.size) := Lib.hid (by have := HX7.out.lt; omega)
      clear hm7 hf7 hg7 hgx hn7 hbA hc0 hc1 hc2 hs0 hs1 hs2 hs3 hcell
      cases hq : safeT halls ways (nxS s (cn : Int)) with
      | false =>
        have HE := Lib.hid (HNE.out hq)
        have HLL : Hid ((safeMK halls ways s (k + 1)).length = n2) := Lib.hid (by rw [HE.out]; exact HL2.out)
        have HO8 : Hid (OwI wB (w.heap.size + 2) (.slice A2 n2 c2) (safeMK halls ways s (k + 1))) := Lib.hid (by have h9 := HOO7.out; rw [HE.out]; exact h9)
        clear hq
        go_wp2
        go_roundw
        case rel => exact ⟨k + 1, n7, n2, f7, A2, c2, by omega, by go_num, rfl, by omega, HN7.out, HLL, HO8, HM7, HF7, HX7, HO7, HSP, HG7⟩
        case measure => simp [intOf]; omega
      | true =>
        have HE := Lib.hid (HYE.out hq)
        have hn2b : n2 ≤ 4 := by omega
        clear hq
        go_wp2_with (first | (at_builtin; refine wpList_appI2 wB rfl (.tmp 25) (.tmp 27) rfl (w.heap.size + 2) (w.heap.size + 2) wB A2 n2 c2 _ _ _ _ rfl HOO7.out HL2.out rfl (Below.refl _ _) (Nat.le_refl _) HSZ.out (by omega) HO7.out HSP.out ?_; intro A3 c3 w5 hown3 hsz3 hb3 hds3 hsep3; rw [← HE.out] at hown3; have HO8 := Lib.hid hown3; have HB8 := Lib.hid hb3; have HD8 := Lib.hid hds3; have HS8 := Lib.hid hsep3; clear hown3 hsz3 hb3 hds3 hsep3) | fail)
        have HM8 := Lib.hid (HM7.out.exB HB8.out (by omega))
        have HX8 := Lib.hid (HX7.out.exB HB8.out (Nat.le_refl _))
        have HG8 : Hid (GrS (fun k => k = b) w w5) := Lib.hid (HG7.out.transNew (GrS.ofBelowB HB8.out HSZ.out) (fun i hi hr => by omega))
        go_roundw
        case rel => exact ⟨k + 1, n7, n2 + 1, f7, A3, c3, by omega, by go_num, rfl, by omega, HN7.out, Lib.hid (by rw [HE.out]; simp [HL2.out]), HO8, HM8, HF7, HX8, HD8, HS8, HG8⟩
        case measure => simp [intOf]; omega
    · have hkn : k = (movesL halls ways 4 s).length := by omega
      have HR : Hid (n2 = (safeMT halls ways s).length) := Lib.hid (by rw [← HALL.out, ← hkn, HL2.out])
      have HO9 : Hid (OwI wr w.heap.size (.slice A2 n2 c2) (safeMT halls ways s)) := Lib.hid (by rw [← HALL.out, ← hkn]; exact HOO.out.mono (by omega))
      clear hkn
      go_wp2
      go_ret
      rw [← HR.out]
      exact ⟨A2, c2, nn, ff, rfl, HO9.out, HMR.out, HFR.out, by omega, HGR.out⟩
end Go.Proofs.Ytegabdhmfemgkaa
