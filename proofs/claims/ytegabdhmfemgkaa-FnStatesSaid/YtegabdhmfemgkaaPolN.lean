/-
All carriers done, the next state, the number of a state: of the program and of the reference. Condition: the slices read as lists; one place for each way.
-/
import Derived.Test.YtegabdhmfemgkaaPolM
import Derived.Test.YtegabdhmfemgkaaOwn
namespace Go.Proofs.Ytegabdhmfemgkaa
open Go.RowKit
set_option linter.unusedVariables false

theorem doneN_all (ways : List (List Int)) (s : List Int) : doneN ways s ways.length = doneS ways s := rfl

set_option maxHeartbeats 1000000 in
theorem allDone_any (v u : Value) (halls : List Int) (ways : List (List Int)) (most : Int) (pl : List Int) (w : World) (hv : SlI w v halls) (hu : SlII w u ways) (h4 : ways.length ≤ 4) :
    Calls Try.prog 96 #[.agg #[v, u, .int .i64 most], stV pl] w fun e w' => e = .returned (.bool (doneS ways pl)) ∧ Below w.heap.size w w' := by
  have hDN := fun (c : Nat) (hc : c < ways.length) (W : World) (hW : Below w.heap.size w W) => isDone_any v u halls ways most pl c W (hv.ex hW) (hu.ex hW) hc h4
  obtain ⟨A, d, rfl, hla, ha⟩ := hv.op
  obtain ⟨B, f, rfl, hlb, hat⟩ := hu.op
  clear hv hu ha hat
  unfold stV at hDN ⊢
  have HDN := Lib.hid hDN
  have HB := Lib.hid (below_alloc2 w (.cells #[.slice A halls.length d, .slice B ways.length f, .int .i64 most] 69) (.cells #[.int .i64 (plc pl 0), .int .i64 (plc pl 1), .int .i64 (plc pl 2), .int .i64 (plc pl 3)] 86))
  have HQ := Lib.hid (boxT w (.slice A halls.length d) (.slice B ways.length f) most pl 69 86)
  have hc1 := HQ.out.c1
  have HSU := Lib.hid (fun k hk => @doneN_succ ways pl k hk)
  have HBA := Lib.hid (fun k hk => @doneN_bad ways pl k hk)
  have HAL := Lib.hid (doneN_all ways pl)
  clear hDN
  go_enter Try.func96, Try.ntmps96
  go_wp2
  go_loopw [9] (fun i wr => ∃ k : Nat, k ≤ ways.length ∧ i = .int .i64 k ∧ Hid (doneN ways pl k = true) ∧ Hid (BoxT wr w.heap.size (.slice A halls.length d) (.slice B ways.length f) most pl) ∧ Hid (Below w.heap.size w wr)) (fun i _ => ways.length - (intOf i).toNat)
  case atStart => exact ⟨0, Nat.zero_le _, rfl, Lib.hid (by simp [doneN]), HQ, HB⟩
  case round =>
    obtain ⟨k, hk, rfl, HN, HX, HBB⟩ := hrel
    by_cases hlt : k < ways.length
    · have hki : (k : Int) < (ways.length : Int) := by omega
      have hb0 := HX.out.c0; have hb1 := HX.out.c1; have hb2 := HX.out.c2
      have hs0 := HX.out.s 0 (by omega); have hs1 := HX.out.s 1 (by omega); have hs2 := HX.out.s 2 (by omega); have hs3 := HX.out.s 3 (by omega)
      have HC := Lib.hid (HDN.out k hlt wr HBB.out)
      have HE := Lib.hid (HSU.out k hlt)
      have HD := Lib.hid (HBA.out k hlt)
      generalize decide ((ways[k].length : Int) < plc pl k) = q at HC HE HD
      cases q with
      | false =>
        have HF := Lib.hid (HD.out rfl)
        go_wp2_with fail
        refine HC.out.mono ?_
        rintro e w2 ⟨rfl, hbw⟩
        have HB3 := Lib.hid (below_next0 HBB.out hbw)
        clear hbw hb0 hb1 hb2 hs0 hs1 hs2 hs3
        go_wp2
        go_ret
        exact ⟨ret_bool HF.out.symm, HB3.out⟩
      | true =>
        go_wp2_with fail
        refine HC.out.mono ?_
        rintro e w2 ⟨rfl, hbw⟩
        have HB3 := Lib.hid (below_next0 HBB.out hbw)
        have HX3 := Lib.hid (HX.out.ex hbw)
        clear hbw hb0 hb1 hb2 hs0 hs1 hs2 hs3
        go_wp2
        go_roundw
        case rel => exact ⟨k + 1, by omega, by go_num, Lib.hid (by rw [HE.out, HN.out]; rfl), HX3, HB3⟩
        case measure => simp [intOf]; omega
    · have hkn : k = ways.length := by omega
      subst hkn
      go_wp2
      go_ret
      exact ⟨ret_bool (by rw [← HAL.out, HN.out]), HBB.out⟩

set_option maxHeartbeats 1000000 in
theorem l12Done_any (u r : Value) (ways : List (List Int)) (pl : List Int) (w : World) (hu : SlII w u ways) (hr : SlI w r pl) (hlen : pl.length = ways.length) :
    Calls Try.prog 86 #[u, r] w fun e w' => e = .returned (.bool (doneS ways pl)) ∧ Below w.heap.size w w' := by
  obtain ⟨B, f, rfl, hlb, hat⟩ := hu.op
  obtain ⟨R, g, rfl, hlr, hrt⟩ := hr.op
  have HAT := Lib.hid hat; have HRT := Lib.hid hrt
  have HLEN := Lib.hid hlen
  have HSU := Lib.hid (fun k hk => @doneN_succ ways pl k hk)
  have HBA := Lib.hid (fun k hk => @doneN_bad ways pl k hk)
  have HAL := Lib.hid (doneN_all ways pl)
  rw [hlen]
  rw [hlen] at hlr
  clear hu hr hat hrt hlen
  go_enter Try.func86, Try.ntmps86
  go_wp2
  go_loopw [5] (fun i wr => ∃ k : Nat, k ≤ ways.length ∧ i = .int .i64 k ∧ Hid (doneN ways pl k = true) ∧ Hid (Below w.heap.size w wr)) (fun i _ => ways.length - (intOf i).toNat)
  case atStart => exact ⟨0, Nat.zero_le _, rfl, Lib.hid (by simp [doneN]), Lib.hid (Below.refl _ _)⟩
  case round =>
    obtain ⟨k, hk, rfl, HN, HBB⟩ := hrel
    by_cases hkw : k < ways.length
    · have hlt : k < pl.length := by rw [HLEN.out]; exact hkw
      have hki : (k : Int) < (ways.length : Int) := by omega
      obtain ⟨b, o, rfl, hbs, hcc⟩ := HRT.out k hlt
      have hp := cell_plus ((HBB.out.cell (p := ⟨b, o + k, none⟩) hbs).trans (hcc k hlt))
      obtain ⟨bw, ow, A', c', rfl, hbsw, hcell, hrow⟩ := HAT.out k hkw
      have hpw := cell_plus ((HBB.out.cell (p := ⟨bw, ow + k, none⟩) hbsw).trans hcell)
      have HX : Hid (pl[k] = plc pl k) := Lib.hid (by simp [plc, List.getD_eq_getElem?_getD, hlt])
      rw [HX.out] at hp
      have HE := Lib.hid (HSU.out k hkw)
      have HD := Lib.hid (HBA.out k hkw)
      generalize plc pl k = p at hp HE HD
      generalize ways[k].length = L at hpw HE HD
      clear hcc hcell hrow
      by_cases hq : (L : Int) < p
      · have hq1 : decide ((L : Int) < p) = true := by simpa using hq
        rw [hq1] at HE HD
        clear hq1
        go_wp2
        refine wp_region_plus (by kernel_rfl) (by kernel_rfl) ?_
        repeat (go_big_quiet_step ((fail)))
        refine wpQuiet_nil ?_
        intro wq hwq
        replace hwq := below_of_plus hwq
        have HB3 := Lib.hid (below_next0 HBB.out hwq)
        clear hwq hp hpw
        go_wp2
        go_roundw
        case rel => exact ⟨k + 1, by omega, by go_num, Lib.hid (by rw [HE.out, HN.out]; rfl), HB3⟩
        case measure => simp [intOf]; omega
      · have hq1 : decide ((L : Int) < p) = false := by simpa using hq
        rw [hq1] at HE HD
        have HF := Lib.hid (HD.out rfl)
        have hq2 : p ≤ (L : Int) := by omega
        clear hq1 hq
        go_wp2
        refine wp_region_plus (by kernel_rfl) (by kernel_rfl) ?_
        repeat (go_big_quiet_step ((fail)))
        refine wpQuiet_nil ?_
        intro wq hwq
        replace hwq := below_of_plus hwq
        have HB3 := Lib.hid (below_next0 HBB.out hwq)
        clear hwq hp hpw
        go_wp2
        go_ret
        exact ⟨ret_bool HF.out.symm, HB3.out⟩
    · have hkn : k = ways.length := by omega
      subst hkn
      go_wp2
      go_ret
      exact ⟨ret_bool (by rw [← HAL.out, HN.out]), HBB.out⟩

set_option maxHeartbeats 1000000 in
theorem l12Next_any (r : Value) (pl : List Int) (c : Nat) (w : World) (hr : SlI w r pl) (hc : c < pl.length) (hl : pl.length ≤ 1048576) (h0 : 0 ≤ plc pl c ∧ plc pl c ≤ 1000) :
    Calls Try.prog 88 #[r, .int .i64 c] w fun e w' => ∃ A d, e = .returned (.slice A pl.length d) ∧ OwI w' w.heap.size (.slice A pl.length d) (nxS pl c) ∧ Below w.heap.size w w' := by
  have HO := Lib.hid (l00Own_any r pl w hr hl)
  have HN : Hid (nxS pl c = pl.set c (plc pl c + 1)) := Lib.hid rfl
  have HX : Hid (pl[c] = plc pl c) := Lib.hid (by simp [plc, List.getD_eq_getElem?_getD, hc])
  obtain ⟨R, g, rfl, hlr, _⟩ := hr.op
  clear hr
  have hci : (c : Int) < (pl.length : Int) := by omega
  go_enter Try.func88, Try.ntmps88
  go_wp2_with fail
  refine HO.out.mono ?_
  rintro e w1 ⟨A1, c1, rfl, hown, hb1⟩
  have HB1 := Lib.hid hb1
  have HOW := Lib.hid hown
  rcases Ow.form hown with ⟨_, hz, _⟩ | ⟨g1, c4, hA2, hlo, hlt, _⟩
  · omega
  injection hA2 with hA2 hn2 hc2
  clear hn2
  subst hA2 hc2
  have hcell := OwI.cell hown hc
  rw [HX.out] at hcell
  have hfz := OwI.free hown c
  have HS := Lib.hid (OwI.set hown c (plc pl c + 1))
  have HB2 := Lib.hid (hb1.setCell (p := ⟨g1, c, none⟩) hlo (.int .i64 (plc pl c + 1)))
  generalize plc pl c = z at hcell h0 HS HN HB2
  obtain ⟨h00, h01⟩ := h0
  clear hown hb1 hlt HX
  go_wp2
  go_ret
  refine ⟨_, _, rfl, ?_, HB2.out⟩
  rw [HN.out]
  exact HS.out

set_option maxHeartbeats 1000000 in
theorem l12Number_any (r : Value) (s : List Int) (w : World) (hr : SlI w r s) (h6 : ∀ k, k < s.length → 0 ≤ plc s k ∧ plc s k ≤ 6) (h4 : s.length ≤ 4) :
    Calls Try.prog 98 #[r] w fun e w' => e = .returned (.int .i64 (numS s)) ∧ w = w' := by
  obtain ⟨R, g, rfl, hlr, hrt⟩ := hr.op
  have HRT := Lib.hid hrt
  have H6 := Lib.hid h6
  have HSU := Lib.hid (fun k hk => @numN_succ s k hk)
  have HBD : Hid (∀ k, k ≤ s.length → 0 ≤ numN s k ∧ numN s k < 2401) := Lib.hid fun k hk => by
    have h1 := numN_bd h6 k hk
    have h2 := pow7 (show k ≤ 4 by omega)
    omega
  have HEQ := Lib.hid (numS_eq s)
  clear hr hrt h6
  go_enter Try.func98, Try.ntmps98
  go_wp2
  go_loop [3, 4] (fun n i => ∃ k : Nat, k ≤ s.length ∧ i = .int .i64 k ∧ n = .int .i64 (numN s k)) (fun _ i => s.length - (intOf i).toNat)
  case atStart => exact ⟨0, Nat.zero_le _, rfl, by simp [numN]⟩
  case round =>
    obtain ⟨k, hk, rfl, rfl⟩ := hrel
    by_cases hlt : k < s.length
    · have hki : (k : Int) < (s.length : Int) := by omega
      obtain ⟨b, o, rfl, hbs, hcc⟩ := HRT.out k hlt
      have hp := hcc k hlt
      have HX : Hid (s[k] = plc s k) := Lib.hid (by simp [plc, List.getD_eq_getElem?_getD, hlt])
      rw [HX.out] at hp
      have HE := Lib.hid (HSU.out k hlt)
      obtain ⟨hb1, hb2⟩ := HBD.out k hk
      obtain ⟨hp1, hp2⟩ := H6.out k hlt
      generalize plc s k = p at hp HE hp1 hp2
      generalize numN s k = n at HE hb1 hb2 ⊢
      clear hcc HX
      go_wp2
      go_round
      case rel => exact ⟨k + 1, by omega, by go_num, by rw [HE.out]⟩
      case measure => simp [intOf]; omega
    · have hkn : k = s.length := by omega
      subst hkn
      go_wp2
      go_ret
      exact ⟨ret_int HEQ.out.symm, rfl⟩
end Go.Proofs.Ytegabdhmfemgkaa
