/-
FnGuests returns true for all arguments: who can go, who is stuck, the most that can go and the order agree with one another; the argument stays as it was. No condition beyond the form's own reach.
-/
import Derived.Test.YtedoibgclplnaaaRows
import Derived.Test.YtedoibgclplnaaaLaw
import Derived.Test.YtedoibgclplnaaaDrR3
import Derived.Test.YtedoibgclplnaaaGuestC
import Derived.Test.YtedoibgclplnaaaRoomP
namespace Go.Proofs.Ytedoibgclplnaaa
open Go.ChangeShapes Go.WideShapes Go.ChangeAt Go.RowKit Go.Deep Go.Joins
set_option linter.unusedVariables false

set_option maxRecDepth 100000 in
set_option maxHeartbeats 8000000 in
theorem lawGuests_any (v0 : Value) (x0 : List Int) (w : World) (h0 : SlB w v0 x0) : Calls Try.prog 12 #[v0] w fun e w' => e = .returned (.bool true) ∧ Below w.heap.size w w' := by
  have HV := Lib.hid h0
  clear h0
  by_cases hl : 3000 < x0.length
  · have HL := Lib.hid (a2Long_any v0 _ x0 [] w HV.out (slB_nil w))
    rw [show (decide (3000 < x0.length) || decide (3000 < ([] : List Int).length)) = true by simp [hl]] at HL
    go_enter Try.func12, Try.ntmps12
    go_wp2_with fail
    refine HL.out.mono ?_
    rintro e w1 ⟨rfl, rfl⟩
    go_wp2
    go_ret
    exact ⟨rfl, Below.refl _ _⟩
  · have HL := Lib.hid (a2Long_any v0 _ x0 [] w HV.out (slB_nil w))
    rw [show (decide (3000 < x0.length) || decide (3000 < ([] : List Int).length)) = false by simp [hl]] at HL
    go_enter Try.func12, Try.ntmps12
    go_wp2_with fail
    refine HL.out.mono ?_
    rintro e w1 ⟨rfl, rfl⟩
    clear HL
    go_wp2_with fail
    refine (a2Rooms_any v0 x0 _ HV.out (by omega)).mono ?_
    rintro e w1 ⟨A, B, c, d, rooms, ts, hok, hr4, ht6, rfl, hg, ht, hb1⟩
    have HOKR := Lib.hid hok
    obtain ⟨FL, CN, LO, st, oc, mo, e1, e2, e3, e4, e5, hK⟩ := guests_tells hok
    have HK := Lib.hid hK
    have HG := Lib.hid hg; have HT := Lib.hid ht; have HB1 := Lib.hid hb1
    have HIF := Lib.hid (fun W (a : SlI W (.slice A rooms.length c) rooms) (b : SlGuest W (.slice B ts.length d) ts) => implFree_any _ _ rooms ts W a b)
    have HIC := Lib.hid (fun W (a : SlI W (.slice A rooms.length c) rooms) (b : SlGuest W (.slice B ts.length d) ts) => implCan_any _ _ rooms ts W a b)
    have HIS := Lib.hid (fun W (a : SlI W (.slice A rooms.length c) rooms) (b : SlGuest W (.slice B ts.length d) ts) => implStuck_any _ _ rooms ts W a b)
    have HIO := Lib.hid (fun W (a : SlI W (.slice A rooms.length c) rooms) (b : SlGuest W (.slice B ts.length d) ts) => implOrder_any _ _ rooms ts W a b)
    have HIM := Lib.hid (fun W (a : SlI W (.slice A rooms.length c) rooms) (b : SlGuest W (.slice B ts.length d) ts) => implMost_any _ _ rooms ts W a b)
    rw [e1] at HIF; rw [e2] at HIC; rw [e3] at HIS; rw [e4] at HIO; rw [e5] at HIM
    have hfl := hK.flen
    dsimp only at HIF HIC HIS HIO HIM
    rw [hfl] at HIF
    clear e1 e2 e3 e4 e5 hK hfl hg ht hb1 hok HV
    go_wp2_with fail
    refine (HIF.out _ HG.out HT.out).mono ?_
    rintro e w2 ⟨A2, c2, rfl, ho2, hb2⟩
    have HB2 := Lib.hid (below_next0 HB1.out hb2); have HG2 := Lib.hid (HG.out.ex hb2); have HT2 := Lib.hid (HT.out.ex hb2); have HF2 : Hid (SlI w2 (.slice A2 rooms.length c2) FL) := Lib.hid (Ow.sl (by rw [← HK.out.flen] at ho2 ⊢; exact ho2))
    clear hb2 ho2 HIF HB1 HG HT
    go_wp2_with fail
    refine (HIC.out _ HG2.out HT2.out).mono ?_
    rintro e w3 ⟨A3, c3, rfl, ho3, hb3⟩
    have HB3 := Lib.hid (below_next0 HB2.out hb3); have HG3 := Lib.hid (HG2.out.ex hb3); have HT3 := Lib.hid (HT2.out.ex hb3); have HF3 := Lib.hid (HF2.out.ex hb3); have HC3 : Hid (SlI w3 (.slice A3 CN.length c3) CN) := Lib.hid (Ow.sl ho3)
    clear hb3 ho3 HIC HB2 HG2 HT2 HF2
    go_wp2_with fail
    refine (HIS.out _ HG3.out HT3.out).mono ?_
    rintro e w4 ⟨rfl, hb4⟩
    have HB4 := Lib.hid (below_next0 HB3.out hb4); have HG4 := Lib.hid (HG3.out.ex hb4); have HT4 := Lib.hid (HT3.out.ex hb4); have HF4 := Lib.hid (HF3.out.ex hb4); have HC4 := Lib.hid (HC3.out.ex hb4)
    clear hb4 HIS HB3 HG3 HT3 HF3 HC3
    go_wp2_with fail
    refine (HIO.out _ HG4.out HT4.out).mono ?_
    rintro e w5 ⟨A5, c5, rfl, ho5, hb5⟩
    have HB5 := Lib.hid (below_next0 HB4.out hb5); have HG5 := Lib.hid (HG4.out.ex hb5); have HT5 := Lib.hid (HT4.out.ex hb5); have HF5 := Lib.hid (HF4.out.ex hb5); have HC5 := Lib.hid (HC4.out.ex hb5); have HO5 : Hid (SlI w5 (.slice A5 LO.length c5) LO) := Lib.hid (Ow.sl ho5)
    clear hb5 ho5 HIO HB4 HG4 HT4 HF4 HC4
    go_wp2_with fail
    refine (HIM.out _ HG5.out HT5.out).mono ?_
    rintro e w6 ⟨rfl, hb6⟩
    have HB := Lib.hid (below_next0 HB5.out hb6); have HG := Lib.hid (HG5.out.ex hb6); have HT := Lib.hid (HT5.out.ex hb6); have HF := Lib.hid (HF5.out.ex hb6); have HC := Lib.hid (HC5.out.ex hb6); have HO := Lib.hid (HO5.out.ex hb6)
    clear hb6 HIM HB5 HG5 HT5 HF5 HC5 HO5
    obtain ⟨A', c', hv9, _, hTc⟩ := HT.out.op
    injection hv9 with hv9 hvn hv8
    clear hvn
    subst hv9 hv8
    have HTC := Lib.hid hTc
    clear hTc
    obtain ⟨A', c', hv9, _, hFc⟩ := HF.out.op
    injection hv9 with hv9 hvn hv8
    clear hvn
    subst hv9 hv8
    have HFC := Lib.hid hFc
    clear hFc
    obtain ⟨A', c', hv9, _, hOc⟩ := HO.out.op
    injection hv9 with hv9 hvn hv8
    clear hvn
    subst hv9 hv8
    have HOC := Lib.hid hOc
    clear hOc
    go_wp2
    go_loopw [15, 16] (fun v15 v16 wr => ∃ k : Nat, v15 = .int .i64 (cntL ts k) ∧ v16 = .int .i64 k ∧ k ≤ ts.length ∧ Hid (Below w6.heap.size w6 wr)) (fun _ v16 _ => ts.length - (intOf v16).toNat)
    case atStart => exact ⟨0, rfl, rfl, Nat.zero_le _, Lib.hid (Below.refl _ _)⟩
    case round =>
      obtain ⟨k, rfl, rfl, hk, HR⟩ := hrel
      by_cases hlt : k < ts.length
      · have hki : (k : Int) < (ts.length : Int) := by omega
        have hk6 : k < 6 := by omega
        obtain ⟨b, o, hBB, hbs, hc0, hc1⟩ := HTC.out k hlt
        have hx0 := (HR.out.cell (p := ⟨b, o + k * 2, none⟩) hbs).trans hc0
        have hx1 := (HR.out.cell (p := ⟨b, o + k * 2 + 1, none⟩) hbs).trans hc1
        have hcan := HK.out.can ts[k]
        have hhas := HK.out.has k hlt
        have hgo := HK.out.go k hlt
        have hfit := Guest.fitsd (HK.out.fit k hlt)
        have HSU : Hid (cntL ts (k + 1) = cntL ts k + (if restB ts[k] = true then 0 else 1)) := Lib.hid (cntL_succ hlt)
        have hrb : restB ts[k] = (ts[k].here == ts[k].wants) := rfl
        have HRB := Lib.hid hrb; have HCAN := Lib.hid hcan; have HHAS := Lib.hid hhas; have HGO := Lib.hid hgo
        obtain ⟨⟨hh0, hh1⟩, hq0, hq1⟩ := hfit
        obtain ⟨s1, s2⟩ := cntL_bd ts k hk
        clear hc0 hc1 hrb hcan hhas hgo
        generalize ts[k] = gg at hx0 hx1 HRB HCAN HHAS HGO HSU hh0 hh1 hq0 hq1
        obtain ⟨h, q⟩ := gg
        dsimp only at hx0 hx1 HRB HCAN HHAS HGO HSU hh0 hh1 hq0 hq1
        have hrl : lastR rooms = (rooms.length : Int) - 1 := rfl
        rw [hrl] at hh1 hq1
        clear hrl
        generalize cntL ts k = s at HSU s1 s2 ⊢
        have HRX : Hid (Below w6.heap.size w6 (wr.alloc (.cells #[.int .i64 h, .int .i64 q] 34))) := Lib.hid (below_next0 HR.out (below_alloc _ _))
        have HGX := Lib.hid (HG.out.ex HRX.out); have HTX := Lib.hid (HT.out.ex HRX.out)
        subst hBB
        by_cases hhq : h = q
        · have hb1 : (h == q) = true := by simpa using hhq
          rw [hb1] at HRB
          rw [HRB.out] at HCAN HGO HSU
          have HCF : Hid (CN.contains (k : Int) = false) := Lib.hid (by rw [HHAS.out, HCAN.out]; rfl)
          have HCD : Hid ((goR rooms ts (k : Int)).2 = 6) := Lib.hid (by rw [HGO.out]; rfl)
          have HS1 : Hid (cntL ts (k + 1) = s) := Lib.hid (by rw [HSU.out]; simp)
          clear hhq HHAS HGO HSU HCAN HRB
          have HGO : Hid (∀ W, SlI W (.slice A rooms.length c) rooms → SlGuest W (.slice (some ⟨b, o, none⟩) ts.length d) ts → Calls Try.prog 36 #[.slice A rooms.length c, .slice (some ⟨b, o, none⟩) ts.length d, .int .i64 (k : Int)] W fun e w' => ∃ A n c, e = .returned (.tuple #[.slice A n c, .int .i64 6]) ∧ Below W.heap.size W w') := Lib.hid fun W a b =>
            (implGoOne_any _ _ rooms ts (k : Int) W a b (by omega)).mono (by rintro e w' ⟨A, c, rfl, -, hb⟩; exact ⟨A, _, c, by rw [HCD.out], hb⟩)
          have HHS : Hid (∀ W, SlI W (.slice A3 CN.length c3) CN → Calls Try.prog 21 #[.slice A3 CN.length c3, .int .i64 (k : Int)] W fun e w' => e = .returned (.bool false) ∧ Below W.heap.size W w') := Lib.hid fun W a =>
            (a2Has_any _ CN (k : Int) W a).mono (by rintro e w' ⟨rfl, hb⟩; exact ⟨by rw [HCF.out], hb⟩)
          clear HCD HCF
          go_wp2_with fail
          refine (HGO.out _ HGX.out HTX.out).mono ?_
          rintro e wa ⟨Aa, na, ca, rfl, hba⟩
          have HRA := Lib.hid (below_next0 HRX.out hba); have HCX := Lib.hid (HC.out.ex (below_next0 HRX.out hba))
          clear hba HRX HGX HTX HR HGO
          go_wp2_with fail
          refine (HHS.out _ HCX.out).mono ?_
          rintro e wb ⟨rfl, hbb⟩
          have HRB := Lib.hid (below_next0 HRA.out hbb)
          clear hbb HRA HCX HHS
          go_wp2
          go_roundw
          case rel => exact ⟨k + 1, by rw [HS1.out], by go_num, by omega, HRB⟩
          case measure => simp [intOf]; omega
        · have hb1 : (h == q) = false := by simpa using hhq
          rw [hb1] at HRB
          rw [HRB.out] at HCAN HGO HSU
          have HS1 : Hid (cntL ts (k + 1) = s + 1) := Lib.hid (by rw [HSU.out]; simp)
          by_cases hqn : q = -1
          · have hb2 : (q == -1) = true := by simpa using hqn
            have HCP : Hid (canP rooms ts ⟨h, q⟩ = true) := Lib.hid (by rw [HCAN.out, hqn]; rfl)
            have HCF : Hid (CN.contains (k : Int) = true) := Lib.hid (by rw [HHAS.out, HCP.out])
            have HCD : Hid ((goR rooms ts (k : Int)).2 = 0) := Lib.hid (by rw [HGO.out, HCP.out]; rfl)
            clear hhq hqn HHAS HGO HSU HCAN HRB HCP
            have HGO : Hid (∀ W, SlI W (.slice A rooms.length c) rooms → SlGuest W (.slice (some ⟨b, o, none⟩) ts.length d) ts → Calls Try.prog 36 #[.slice A rooms.length c, .slice (some ⟨b, o, none⟩) ts.length d, .int .i64 (k : Int)] W fun e w' => ∃ A n c, e = .returned (.tuple #[.slice A n c, .int .i64 0]) ∧ Below W.heap.size W w') := Lib.hid fun W a b =>
              (implGoOne_any _ _ rooms ts (k : Int) W a b (by omega)).mono (by rintro e w' ⟨A, c, rfl, -, hb⟩; exact ⟨A, _, c, by rw [HCD.out], hb⟩)
            have HHS : Hid (∀ W, SlI W (.slice A3 CN.length c3) CN → Calls Try.prog 21 #[.slice A3 CN.length c3, .int .i64 (k : Int)] W fun e w' => e = .returned (.bool true) ∧ Below W.heap.size W w') := Lib.hid fun W a =>
              (a2Has_any _ CN (k : Int) W a).mono (by rintro e w' ⟨rfl, hb⟩; exact ⟨by rw [HCF.out], hb⟩)
            clear HCD HCF
            go_wp2_with fail
            refine (HGO.out _ HGX.out HTX.out).mono ?_
            rintro e wa ⟨Aa, na, ca, rfl, hba⟩
            have HRA := Lib.hid (below_next0 HRX.out hba); have HCX := Lib.hid (HC.out.ex (below_next0 HRX.out hba))
            clear hba HRX HGX HTX HR HGO
            go_wp2_with fail
            refine (HHS.out _ HCX.out).mono ?_
            rintro e wb ⟨rfl, hbb⟩
            have HRB := Lib.hid (below_next0 HRA.out hbb)
            clear hbb HRA HCX HHS
            go_wp2
            go_roundw
            case rel => exact ⟨k + 1, by rw [HS1.out], by go_num, by omega, HRB⟩
            case measure => simp [intOf]; omega
          · have hb2 : (q == -1) = false := by simpa using hqn
            obtain ⟨j, rfl⟩ := Int.eq_ofNat_of_zero_le (show 0 ≤ q by omega)
            have hjl : j < FL.length := by have := HK.out.flen; omega
            have hji : (j : Int) < (rooms.length : Int) := by omega
            obtain ⟨bf, of, hAF, hbf, hcf⟩ := HFC.out j hjl
            have hfx := (HRX.out.cell (p := ⟨bf, of + j, none⟩) hbf).trans (hcf j hjl)
            have hgd : FL.getD ((j : Int)).toNat 0 = FL[j] := by simp [List.getD_eq_getElem?_getD, hjl]
            have HCA2 : Hid (canP rooms ts ⟨h, (j : Int)⟩ = decide (0 < FL[j])) := Lib.hid (by rw [HCAN.out]; rw [hgd, decide_eq_false (show ¬ ((j : Int) < 0) by omega)]; simp)
            clear hgd hcf HCAN
            generalize FL[j] = f at hfx HCA2
            subst hAF
            by_cases hf : 0 < f
            · have HCP : Hid (canP rooms ts ⟨h, (j : Int)⟩ = true) := Lib.hid (by rw [HCA2.out, decide_eq_true hf])
              have HCF : Hid (CN.contains (k : Int) = true) := Lib.hid (by rw [HHAS.out, HCP.out])
              have HCD : Hid ((goR rooms ts (k : Int)).2 = 0) := Lib.hid (by rw [HGO.out, HCP.out]; rfl)
              clear hhq hqn HHAS HGO HSU HRB HCP HCA2
              have HGO : Hid (∀ W, SlI W (.slice A rooms.length c) rooms → SlGuest W (.slice (some ⟨b, o, none⟩) ts.length d) ts → Calls Try.prog 36 #[.slice A rooms.length c, .slice (some ⟨b, o, none⟩) ts.length d, .int .i64 (k : Int)] W fun e w' => ∃ A n c, e = .returned (.tuple #[.slice A n c, .int .i64 0]) ∧ Below W.heap.size W w') := Lib.hid fun W a b =>
                (implGoOne_any _ _ rooms ts (k : Int) W a b (by omega)).mono (by rintro e w' ⟨A, c, rfl, -, hb⟩; exact ⟨A, _, c, by rw [HCD.out], hb⟩)
              have HHS : Hid (∀ W, SlI W (.slice A3 CN.length c3) CN → Calls Try.prog 21 #[.slice A3 CN.length c3, .int .i64 (k : Int)] W fun e w' => e = .returned (.bool true) ∧ Below W.heap.size W w') := Lib.hid fun W a =>
                (a2Has_any _ CN (k : Int) W a).mono (by rintro e w' ⟨rfl, hb⟩; exact ⟨by rw [HCF.out], hb⟩)
              clear HCD HCF
              go_wp2_with fail
              refine (HGO.out _ HGX.out HTX.out).mono ?_
              rintro e wa ⟨Aa, na, ca, rfl, hba⟩
              have HRA := Lib.hid (below_next0 HRX.out hba); have HCX := Lib.hid (HC.out.ex (below_next0 HRX.out hba))
              clear hba HRX HGX HTX HR HGO
              go_wp2_with fail
              refine (HHS.out _ HCX.out).mono ?_
              rintro e wb ⟨rfl, hbb⟩
              have HRB := Lib.hid (below_next0 HRA.out hbb)
              clear hbb HRA HCX HHS
              go_wp2
              go_roundw
              case rel => exact ⟨k + 1, by rw [HS1.out], by go_num, by omega, HRB⟩
              case measure => simp [intOf]; omega
            · have HCP : Hid (canP rooms ts ⟨h, (j : Int)⟩ = false) := Lib.hid (by rw [HCA2.out, decide_eq_false hf])
              have HCF : Hid (CN.contains (k : Int) = false) := Lib.hid (by rw [HHAS.out, HCP.out])
              have HCD : Hid ((goR rooms ts (k : Int)).2 = 5) := Lib.hid (by rw [HGO.out, HCP.out]; rfl)
              clear hhq hqn HHAS HGO HSU HRB HCP HCA2
              have HGO : Hid (∀ W, SlI W (.slice A rooms.length c) rooms → SlGuest W (.slice (some ⟨b, o, none⟩) ts.length d) ts → Calls Try.prog 36 #[.slice A rooms.length c, .slice (some ⟨b, o, none⟩) ts.length d, .int .i64 (k : Int)] W fun e w' => ∃ A n c, e = .returned (.tuple #[.slice A n c, .int .i64 5]) ∧ Below W.heap.size W w') := Lib.hid fun W a b =>
                (implGoOne_any _ _ rooms ts (k : Int) W a b (by omega)).mono (by rintro e w' ⟨A, c, rfl, -, hb⟩; exact ⟨A, _, c, by rw [HCD.out], hb⟩)
              have HHS : Hid (∀ W, SlI W (.slice A3 CN.length c3) CN → Calls Try.prog 21 #[.slice A3 CN.length c3, .int .i64 (k : Int)] W fun e w' => e = .returned (.bool false) ∧ Below W.heap.size W w') := Lib.hid fun W a =>
                (a2Has_any _ CN (k : Int) W a).mono (by rintro e w' ⟨rfl, hb⟩; exact ⟨by rw [HCF.out], hb⟩)
              clear HCD HCF
              go_wp2_with fail
              refine (HGO.out _ HGX.out HTX.out).mono ?_
              rintro e wa ⟨Aa, na, ca, rfl, hba⟩
              have HRA := Lib.hid (below_next0 HRX.out hba); have HCX := Lib.hid (HC.out.ex (below_next0 HRX.out hba))
              clear hba HRX HGX HTX HR HGO
              go_wp2_with fail
              refine (HHS.out _ HCX.out).mono ?_
              rintro e wb ⟨rfl, hbb⟩
              have HRB := Lib.hid (below_next0 HRA.out hbb)
              clear hbb HRA HCX HHS
              go_wp2
              go_roundw
              case rel => exact ⟨k + 1, by rw [HS1.out], by go_num, by omega, HRB⟩
              case measure => simp [intOf]; omega
      · have hki : ¬ ((k : Int) < (ts.length : Int)) := by omega
        obtain rfl : k = ts.length := by omega
        have hmo0 := HK.out.mo0; have hmo1 := HK.out.mo1; have hmo2 := HK.out.mo2
        have HSTK := Lib.hid HK.out.stk; have HSTO := Lib.hid HK.out.sto; have HORD := Lib.hid HK.out.ord
        clear HTC HFC HK
        generalize cntL ts ts.length = wn at hmo1 HSTK HORD ⊢
        by_cases hc0 : CN.length = 0
        · by_cases hw : 0 < wn
          · have e : st = true := by rw [HSTK.out, decide_eq_true hc0, decide_eq_true hw]; rfl
            have ho := HSTO.out e
            have hne : mo ≠ wn := by rcases HORD.out with h | h <;> omega
            subst e ho
            have hb1 : (mo == wn) = false := by simpa using hne
            have hlt1 : ¬ (wn < mo) := by omega
            have hlt2 : ¬ (mo < 0) := by omega
            clear hne HSTK HSTO HORD hmo2
            go_wp2
            go_ret
            exact ⟨rfl, below_next0 HB.out HR.out⟩
          · have e : st = false := by rw [HSTK.out, decide_eq_true hc0, decide_eq_false hw]; rfl
            subst e
            rcases HORD.out with ⟨ho, hmo, hlo, hrun⟩ | ⟨ho, hmo⟩
            · subst ho
              have hcf : ¬ (0 < (CN.length : Int)) := by omega
              have hcz : ((CN.length : Int) == 0) = true := beq_iff_eq.2 (by omega)
              obtain rfl : wn = 0 := by omega
              subst hmo
              obtain rfl : LO = [] := List.eq_nil_of_length_eq_zero (by omega)
              clear hrun HSTK HSTO HORD hmo2 hlo hw hmo0 hmo1
              go_wp2
              go_loopw [22, 23] (fun v22 v23 wr2 => v22 = .slice B ts.length d ∧ v23 = .int .i64 0 ∧ Hid (Below w6.heap.size w6 wr2)) (fun _ _ _ => 0)
              case atStart => exact ⟨rfl, rfl, HR⟩
              case round =>
                obtain ⟨rfl, rfl, HR2⟩ := hrel
                go_wp2
                go_ret
                exact ⟨rfl, below_next0 HB.out HR2.out⟩
            · exfalso; omega
        · have e : st = false := by rw [HSTK.out, decide_eq_false hc0]; rfl
          subst e
          have hcz : ((CN.length : Int) == 0) = false := by simpa using hc0
          have hcp : 0 < (CN.length : Int) := by omega
          have hm1 : ¬ (mo < 1) := by have := hmo2 (by omega); omega
          have hm0 : ¬ (mo < 0) := by omega
          have hlt1 : ¬ (wn < mo) := by omega
          rcases HORD.out with ⟨ho, hmo, hlo, hrun⟩ | ⟨ho, hmo⟩
          · subst ho
            subst hmo
            have hlt0 : ¬ (mo < mo) := by omega
            obtain ⟨ln, HLN⟩ : ∃ ln : Nat, Hid (LO.length = ln) := ⟨_, Lib.hid rfl⟩
            have hm0' : ¬ (mo < 0) := by omega
            subst hlo
            have HRUN := Lib.hid hrun
            clear hrun HSTK HSTO HORD hmo2
            go_wp2
            go_loopw [22, 23] (fun v22 v23 wr2 => ∃ (k2 S c2 : Nat) (A2' : Option Addr), v22 = .slice A2' ts.length c2 ∧ v23 = .int .i64 k2 ∧ k2 ≤ LO.length ∧ Hid (Rch ts.length (canS rooms ts) 0 S) ∧ Hid (RunsTo rooms ts (LO.drop k2) S) ∧ Hid (SlGuest wr2 (.slice A2' ts.length c2) (gn ts S)) ∧ Hid (Below w6.heap.size w6 wr2)) (fun _ v23 _ => LO.length - (intOf v23).toNat)
            case atStart => exact ⟨0, 0, d, _, rfl, rfl, Nat.zero_le _, Lib.hid .zero, HRUN, Lib.hid (by rw [gn_zero]; exact HT.out.ex HR.out), HR⟩
            case round =>
              obtain ⟨k2, S, cn, A2', rfl, rfl, hk2, HRC, HRU, HN, HR2⟩ := hrel
              by_cases hlt2 : k2 < LO.length
              · have hki2 : (k2 : Int) < (LO.length : Int) := by omega
                have hdr : LO.drop k2 = LO[k2] :: LO.drop (k2 + 1) := List.drop_eq_getElem_cons hlt2
                obtain ⟨j, hje, hj, hcan, hrun2⟩ : ∃ j : Nat, LO[k2] = (j : Int) ∧ j < ts.length ∧ canS rooms ts S j = true ∧ RunsTo rooms ts (LO.drop (k2 + 1)) (S ||| 2 ^ j) := by
                  have h9 := HRU.out
                  rw [hdr] at h9
                  exact h9
                have HRU2 := Lib.hid hrun2
                have HRC2 := Lib.hid (HRC.out.step hj hcan)
                obtain ⟨bo, oo, hAO, hbo, hco⟩ := HOC.out k2 hlt2
                have hox := (HR2.out.cell (p := ⟨bo, oo + k2, none⟩) hbo).trans (hco k2 hlt2)
                rw [hje] at hox
                have HSP : Hid (∀ W, SlI W (.slice A rooms.length c) rooms → SlGuest W (.slice A2' ts.length cn) (gn ts S) → Calls Try.prog 35 #[.slice A rooms.length c, .slice A2' ts.length cn, .int .i64 (j : Int)] W fun e w' => ∃ A c, e = .returned (.tuple #[.slice A ts.length c, .int .i64 0]) ∧ SlGuest w' (.slice A ts.length c) (gn ts (S ||| 2 ^ j)) ∧ Below W.heap.size W w') := Lib.hid fun W a b => by
                  have H9 := specGoOne_any _ _ rooms (gn ts S) (j : Int) W ⟨a, by omega⟩ ⟨b, by rw [gn_len]; omega⟩ (by omega)
                  rw [goR_step HOKR.out HRC.out hj hcan] at H9
                  dsimp only at H9
                  rw [gn_len] at H9
                  exact H9.mono (by rintro e w' ⟨A, c, rfl, ho, hb⟩; exact ⟨A, c, rfl, OwGuest.sl ho, hb⟩)
                have HGN := Lib.hid (HG.out.ex HR2.out)
                clear hdr hje hrun2 hco
                subst hAO
                go_wp2_with fail
                refine (HSP.out _ HGN.out HN.out).mono ?_
                rintro e wq ⟨Aq, cq, rfl, hnq, hbq⟩
                have HNQ := Lib.hid hnq
                have HRQ := Lib.hid (below_next0 HR2.out hbq)
                clear hnq hbq HSP HGN HN HR2
                go_wp2
                go_roundw
                case rel => exact ⟨k2 + 1, S ||| 2 ^ j, cq, Aq, rfl, by go_num, by omega, HRC2, HRU2, HNQ, HRQ⟩
                case measure => simp [intOf]; omega
              · have hki2 : ¬ ((k2 : Int) < (LO.length : Int)) := by omega
                go_wp2
                go_ret
                exact ⟨rfl, below_next0 HB.out HR2.out⟩
          · subst ho
            have hb1 : (mo == wn) = false := by simpa using hmo
            clear hmo HSTK HSTO HORD hmo2 hc0
            go_wp2
            go_ret
            exact ⟨rfl, below_next0 HB.out HR.out⟩

set_option maxRecDepth 100000 in
theorem guests_lifted (os : Os) (started : os.Started) (H : Type) (enc : TypeId × Value → H) :
    ReturnsInHanded {} Try.checked os 12 .any (Rows.fnGuestsSpec.pre6 enc Try.checked.prog Try.f12 Rows.fnGuestsRow.domain false) (Rows.fnGuestsSpec.post enc Try.checked.prog Try.f12 false true false false) := by
  refine law_lifted os started H enc (by kernel_rfl) Try.func12
    (ChangeSpec.witness6 (enc := enc) (C := Try.checked) false ⟨#[], #[.slice none 0 0], []⟩ 8 (by kernel_rfl) (by kernel_rfl) (by kernel_rfl) (by kernel_rfl))
    rfl rfl rfl (by rw [Try.params12]; intro t ht; simp only [List.mem_cons, List.not_mem_nil, or_false] at ht; subst ht; exact ⟨by kernel_rfl, of_decide_eq_true (by kernel_rfl)⟩)
    (fun ds hl => by match ds, hl with | [d0], _ => exact ⟨rfl, rfl, rfl⟩) ?_
  intro W base args ds p hval hA hlt hsz
  rw [Try.params12] at hA hval hsz
  obtain ⟨v0, vs0, d0, ds0, p0, q0, hargs, rfl, rfl, h0, r0⟩ := trodAll_cons hA
  obtain ⟨rfl, rfl, rfl⟩ := trodAll_nil r0
  obtain rfl : args = #[v0] := by cases args; simp_all
  obtain ⟨x0, hx0⟩ := argB Try.underlying22 Try.underlying5 (by kernel_rfl) (by kernel_rfl) (hval 0 _ _ rfl rfl) h0 (weight_arg hsz (j := 0) rfl rfl)
  exact lawGuests_any _ x0 W hx0

theorem guests_holds : Rows.FnGuestsSaid :=
  OpenClaim.holds_of_wide 12 Try.f12 rfl rfl rfl rfl rfl rfl rfl ⟨rfl, rfl, rfl, rfl, rfl⟩ rfl rfl rfl rfl rfl (by kernel_rfl) Try.func12 (by kernel_rfl)
    (of_decide_eq_true (by kernel_rfl)) (by unfold Func.isWrapper; first | (rw [if_pos (by decide +kernel)]; kernel_rfl) | (rw [if_neg (by decide +kernel)]; exact ⟨rfl, rfl⟩))
    (fun os started H enc _ => guests_lifted os started H enc)
#print axioms guests_holds
end Go.Proofs.Ytedoibgclplnaaa
