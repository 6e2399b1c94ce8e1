/-
waitsFor, WaitCircle of the program and of the reference. Condition: the slices read as lists.
-/
import Derived.Test.YtedoibgclplnaaaRoomG
namespace Go.Proofs.Ytedoibgclplnaaa
open Go.RowKit
set_option linter.unusedVariables false

set_option maxHeartbeats 1000000 in
theorem waitsFor_any (v u : Value) (rooms : List Int) (ts : List Guest) (k : Nat) (w : World) (hv : SlI w v rooms) (hu : SlGuest w u ts) (hok : roomsOk rooms ts = true) (hk : k < ts.length) :
    Calls Try.prog 52 #[v, u, .int .i64 k] w fun e w' => e = .returned (.int .i64 (nxK rooms ts k)) ∧ Below w.heap.size w w' := by
  have HV := Lib.hid hv; have HU := Lib.hid hu; have HOK := Lib.hid hok
  obtain ⟨A, c, rfl, hla, ha⟩ := hu.op
  obtain ⟨Ar, cr, rfl, hlr, _⟩ := hv.op
  obtain ⟨b, o, rfl, hbs, hc0, hc1⟩ := ha k hk
  have HA := Lib.hid ha
  have hki : (k : Int) < (ts.length : Int) := by omega
  have HN : Hid (nxK rooms ts k = if waitP rooms ts ts[k] = true then aftW rooms ts ts[k].wants else -1) := Lib.hid (by simp [nxK, hk])
  have HF : Hid (aftW rooms ts ts[k].wants = firstN (aftP rooms ts ts[k].wants) ts.length) := Lib.hid rfl
  have HPA : Hid (∀ (i : Nat) (h : i < ts.length), aftP rooms ts ts[k].wants i = ((ts[i].here == ts[k].wants) && waitP rooms ts ts[i])) := Lib.hid fun i h => aftP_at h
  generalize aftP rooms ts ts[k].wants = P at HF HPA
  generalize aftW rooms ts ts[k].wants = r at HF HN
  generalize nxK rooms ts k = q at HN ⊢
  generalize ts[k].wants = x1 at hc1 HPA
  have eg := enters_of Try.func81 (by kernel_rfl) rfl
  have HW0 : Hid (Below w.heap.size w ((w.alloc (.cells #[.slice Ar rooms.length cr] 24)).alloc (.cells #[.slice (some ⟨b, o, none⟩) ts.length c] 25))) := Lib.hid (below_alloc2 _ _ _)
  have HCC : Hid (∀ W (i : Nat) (hi : i < ts.length), Below ((w.alloc (.cells #[.slice Ar rooms.length cr] 24)).alloc (.cells #[.slice (some ⟨b, o, none⟩) ts.length c] 25)).heap.size ((w.alloc (.cells #[.slice Ar rooms.length cr] 24)).alloc (.cells #[.slice (some ⟨b, o, none⟩) ts.length c] 25)) W →
      Calls Try.prog 81 #[.int .i64 i, .pointer (some ⟨w.heap.size + 1, 0, none⟩), .pointer (some ⟨w.heap.size, 0, none⟩)] W fun e w' => e = .returned (.bool (waitP rooms ts ts[i])) ∧ Below W.heap.size W w') := Lib.hid fun W i hi hW => by
    obtain ⟨h1, h2⟩ := box2 hW
    have hWW := below_next0 HW0.out hW
    exact waitsC_any _ _ rooms ts i _ _ W (HV.out.ex hWW) (HU.out.ex hWW) HOK.out hi h2 h1
  have HB2 : Hid (∀ W, Below ((w.alloc (.cells #[.slice Ar rooms.length cr] 24)).alloc (.cells #[.slice (some ⟨b, o, none⟩) ts.length c] 25)).heap.size ((w.alloc (.cells #[.slice Ar rooms.length cr] 24)).alloc (.cells #[.slice (some ⟨b, o, none⟩) ts.length c] 25)) W → W.cell? ⟨w.heap.size + 1, 0, none⟩ = some (.slice (some ⟨b, o, none⟩) ts.length c)) := Lib.hid fun W hW => (box2 hW).2
  clear hv hu ha hc0 hok
  go_enter Try.func52, Try.ntmps52
  have hck := HCC.out _ k hk (Below.refl _ _)
  have HCK := Lib.hid hck
  clear hck
  generalize waitP rooms ts ts[k] = p at HN HCK
  have HBR := Lib.hid (Below.refl ((w.alloc (.cells #[.slice Ar rooms.length cr] 24)).alloc (.cells #[.slice (some ⟨b, o, none⟩) ts.length c] 25)).heap.size ((w.alloc (.cells #[.slice Ar rooms.length cr] 24)).alloc (.cells #[.slice (some ⟨b, o, none⟩) ts.length c] 25)))
  cases p with
  | false =>
    go_wp2_with fail
    refine (HCK.out).mono ?_
    rintro e w1 ⟨rfl, hb1⟩
    go_wp2
    go_ret
    exact ⟨ret_int (by rw [HN.out]; rfl), below_next0 HW0.out hb1⟩
  | true =>
    have HNR : Hid (q = r) := Lib.hid (by rw [HN.out]; rfl)
    go_wp2_with fail
    refine (HCK.out).mono ?_
    rintro e w1 ⟨rfl, hb1⟩
    have hcl := HB2.out _ hb1
    have HB1 := Lib.hid hb1
    clear hb1
    go_wp2
    clear hcl
    go_loopw [8, 9, 17] (fun _ _ i wr => ∃ m : Nat, m ≤ ts.length ∧ i = .int .i64 m ∧ Hid (∀ j, j < m → P j = false) ∧ Hid (Below ((w.alloc (.cells #[.slice Ar rooms.length cr] 24)).alloc (.cells #[.slice (some ⟨b, o, none⟩) ts.length c] 25)).heap.size ((w.alloc (.cells #[.slice Ar rooms.length cr] 24)).alloc (.cells #[.slice (some ⟨b, o, none⟩) ts.length c] 25)) wr)) (fun _ _ i _ => ts.length - (intOf i).toNat)
    case atStart => exact ⟨0, Nat.zero_le _, rfl, Lib.hid (fun j h => absurd h (Nat.not_lt_zero _)), HB1⟩
    case round =>
      obtain ⟨m, hm, rfl, hP, hb⟩ := hrel
      by_cases hlt : m < ts.length
      · have hmi : (m : Int) < (ts.length : Int) := by omega
        obtain ⟨b2, o2, hbo, hbs2, hd0, hd1⟩ := HA.out m hlt
        injection hbo with hbo
        injection hbo with hb1 ho1 _
        subst hb1 ho1
        have hbw := below_next0 HW0.out hb.out
        have hx0 := (hbw.cell (p := ⟨b, o + m * 2, none⟩) hbs).trans hd0
        have hx1 := (hbw.cell (p := ⟨b, o + m * 2 + 1, none⟩) hbs).trans hd1
        have hy1 := (hbw.cell (p := ⟨b, o + k * 2 + 1, none⟩) hbs).trans hc1
        have HPM := Lib.hid (HPA.out m hlt)
        have HCM := Lib.hid (fun e => plus_below (HCC.out (plus (wr.alloc (.cells #[.int .i64 ts[m].here, .int .i64 ts[m].wants] 34)) e) m hlt (below_next0 hb.out (below_next0 (below_alloc wr _) (below_plus _ e)))))
        generalize waitP rooms ts ts[m] = p at HPM HCM
        generalize ts[m].here = y0 at hx0 HPM HCM
        generalize ts[m].wants = y1 at hx1 HCM
        have hp1 := cell_plus (((below_alloc wr (.cells #[.int .i64 y0, .int .i64 y1] 34)).cell (p := ⟨b, o + k * 2 + 1, none⟩) (Nat.lt_of_lt_of_le hbs hbw.size)).trans hy1)
        have hpl := cell_plus (HB2.out _ (below_next0 hb.out (below_alloc wr (.cells #[.int .i64 y0, .int .i64 y1] 34))))
        have hq0 := cell_plus (show (wr.alloc (.cells #[.int .i64 y0, .int .i64 y1] 34)).cell? ⟨wr.heap.size, 0, none⟩ = some (.int .i64 y0) by simp [go_sem])
        have HB3 := Lib.hid (below_next0 hb.out (below_alloc wr (.cells #[.int .i64 y0, .int .i64 y1] 34)))
        clear hd0 hd1 hy1 hbw
        cases hpm : P m with
        | true =>
          rw [hpm] at HPM
          have hy : (y0 == x1) = true := by have := HPM.out.symm; simp only [Bool.and_eq_true] at this; exact this.1
          have HR : Hid (r = (m : Int)) := Lib.hid (HF.out.trans (firstN_hit hlt hpm hP.out))
          have hp : p = true := by have := HPM.out.symm; simp only [Bool.and_eq_true] at this; exact this.2
          subst hp
          go_wp2
          refine wp_region_plus (by kernel_rfl) (by kernel_rfl) ?_
          repeat (go_big_quiet_step ((exact HCM.out _)))
          refine wpQuiet_nil ?_
          intro wq hwq
          replace hwq := below_of_plus hwq
          go_wp2
          go_ret
          exact ⟨ret_int (by rw [HNR.out, HR.out]), below_next0 HW0.out (below_next0 HB3.out hwq)⟩
        | false =>
          rw [hpm] at HPM
          have HP2 : Hid (∀ j, j < m + 1 → P j = false) := Lib.hid fun j hj => by
            by_cases e : j = m
            · subst e; exact hpm
            · exact hP.out j (by omega)
          cases hy : (y0 == x1) with
          | true =>
            rw [hy] at HPM
            have hp : p = false := by simpa using HPM.out.symm
            subst hp
            go_wp2
            refine wp_region_plus (by kernel_rfl) (by kernel_rfl) ?_
            repeat (go_big_quiet_step ((exact HCM.out _)))
            refine wpQuiet_nil ?_
            intro wq hwq
            replace hwq := below_of_plus hwq
            go_wp2
            go_roundw
            case rel => exact ⟨m + 1, by omega, by go_num, HP2, Lib.hid (below_next0 HB3.out hwq)⟩
            case measure => simp [intOf]; omega
          | false =>
            go_wp2
            refine wp_region_plus (by kernel_rfl) (by kernel_rfl) ?_
            repeat (go_big_quiet_step ((exact HCM.out _)))
            refine wpQuiet_nil ?_
            intro wq hwq
            replace hwq := below_of_plus hwq
            go_wp2
            go_roundw
            case rel => exact ⟨m + 1, by omega, by go_num, HP2, Lib.hid (below_next0 HB3.out hwq)⟩
            case measure => simp [intOf]; omega
      · have hkn : m = ts.length := by omega
        subst hkn
        go_wp2
        go_ret
        exact ⟨ret_int (by rw [HNR.out, HF.out, firstN_miss hP.out]), below_next0 HW0.out hb.out⟩
end Go.Proofs.Ytedoibgclplnaaa
