/-
FnFewestOut returns true for all arguments: without the told guests all others can go, none and no one alone is enough where more are told, and guests of a circle wait for one another; the arguments stay as they were. No condition beyond the form's own reach.
-/
import Derived.Test.YtedoibgclplnaaaRows
import Derived.Test.YtedoibgclplnaaaLaw
import Derived.Test.YtedoibgclplnaaaOutA
import Derived.Test.YtedoibgclplnaaaOutB
import Derived.Test.YtedoibgclplnaaaRoomJ
import Derived.BigQuiet
namespace Go.Proofs.Ytedoibgclplnaaa
open Go.ChangeShapes Go.WideShapes Go.ChangeAt Go.RowKit Go.Deep Go.Joins
set_option linter.unusedVariables false

set_option maxRecDepth 100000 in
set_option maxHeartbeats 8000000 in
theorem lawFewestOut_any (v0 v1 : Value) (x0 x1 : List Int) (w : World) (h0 : SlB w v0 x0) (h1 : SlB w v1 x1) : Calls Try.prog 3 #[v0, v1] w fun e w' => e = .returned (.bool true) ∧ Below w.heap.size w w' := by
  have HV := Lib.hid h0; have HM := Lib.hid h1
  have HL := Lib.hid (a2Long_any v0 v1 x0 x1 w h0 h1)
  clear h0 h1
  by_cases hl : 3000 < x0.length ∨ 3000 < x1.length
  · rw [show (decide (3000 < x0.length) || decide (3000 < x1.length)) = true by simpa using hl] at HL
    clear hl
    go_enter Try.func3, Try.ntmps3
    go_wp2_with fail
    refine HL.out.mono ?_
    rintro e w1 ⟨rfl, rfl⟩
    go_wp2
    go_ret
    exact ⟨rfl, Below.refl _ _⟩
  · rw [show (decide (3000 < x0.length) || decide (3000 < x1.length)) = false by simp; omega] at HL
    have hlx : x0.length ≤ 1048576 := by omega
    clear hl
    go_enter Try.func3, Try.ntmps3
    go_wp2_with fail
    refine HL.out.mono ?_
    rintro e w1 ⟨rfl, rfl⟩
    clear HL
    go_wp2_with fail
    refine (a2Rooms_any v0 x0 _ HV.out hlx).mono ?_
    rintro e w1 ⟨A, B, c, d, rooms, ts, hok, hr4, ht6, rfl, hg, ht, hb1⟩
    have HOKR := Lib.hid hok
    have HG := Lib.hid hg; have HT := Lib.hid ht; have HB1 := Lib.hid hb1; have HM1 := Lib.hid (HM.out.ex hb1)
    have hfl := few_len (rooms := rooms) (ts := ts)
    have HRI := Lib.hid (few_rise (rooms := rooms) (ts := ts))
    have HFE := Lib.hid (few_fe (rooms := rooms) (ts := ts))
    have HNO := Lib.hid (few_none (rooms := rooms) (ts := ts))
    have HON := Lib.hid (@few_one rooms ts)
    have HIF := Lib.hid (fun W (a : SlI W (.slice A rooms.length c) rooms) (b : SlGuest W (.slice B ts.length d) ts) => implFew_any _ _ rooms ts W a b)
    rw [fewR_ok hok] at HIF
    dsimp only at HIF
    generalize fewX rooms ts = X at hfl HRI HFE HNO HON HIF
    have HXB : Hid (∀ x ∈ X, 0 ≤ x ∧ x < (ts.length : Int)) := Lib.hid (fun x hx => by
      obtain ⟨k, hk, rfl⟩ := List.mem_iff_getElem.1 hx
      exact ⟨(HRI.out k hk).1, (HRI.out k hk).2.1⟩)
    have HFR : Hid (∀ (Y : List Int) (b : Bool) (vo : Value) W, fe rooms ts Y = b → (∀ x ∈ Y, 0 ≤ x ∧ x < (ts.length : Int)) → SlI W (.slice A rooms.length c) rooms → SlGuest W (.slice B ts.length d) ts → SlI W vo Y → Calls Try.prog 17 #[.slice A rooms.length c, .slice B ts.length d, vo] W fun e w' => e = .returned (.bool b) ∧ Below W.heap.size W w') := Lib.hid (fun Y b vo W hb hY h1 h2 h3 => by
      rw [← hb]; exact a2Freed_any _ _ vo rooms ts Y W h1 h2 h3 HOKR.out hY)
    clear hg ht hb1 hok HV HM
    go_wp2_with fail
    refine (HIF.out _ HG.out HT.out).mono ?_
    rintro e w2 ⟨A2, c2, rfl, ho2, hb2⟩
    have HB2 := Lib.hid (below_next0 HB1.out hb2); have HG2 := Lib.hid (HG.out.ex hb2); have HT2 := Lib.hid (HT.out.ex hb2); have HM2 := Lib.hid (HM1.out.ex hb2); have HX2 : Hid (SlI w2 (.slice A2 X.length c2) X) := Lib.hid (Ow.sl ho2)
    clear hb2 ho2 HIF HB1 HG HT HM1
    go_wp2_with fail
    refine (a2Rises_any _ X _ _ HX2.out HRI.out).mono ?_
    rintro e w2r ⟨rfl, hbr⟩
    have HBr := Lib.hid (below_next0 HB2.out hbr); have HGr := Lib.hid (HG2.out.ex hbr); have HTr := Lib.hid (HT2.out.ex hbr); have HMr := Lib.hid (HM2.out.ex hbr); have HXr := Lib.hid (HX2.out.ex hbr)
    clear hbr HB2 HG2 HT2 HM2 HX2
    go_wp2_with fail
    refine (HFR.out X true _ _ HFE.out HXB.out HGr.out HTr.out HXr.out).mono ?_
    rintro e w3 ⟨rfl, hb3⟩
    have HB3 := Lib.hid (below_next0 HBr.out hb3); have HG3 := Lib.hid (HGr.out.ex hb3); have HT3 := Lib.hid (HTr.out.ex hb3); have HM3 := Lib.hid (HMr.out.ex hb3)
    clear hb3 HBr HGr HTr HMr HXr HRI HFE HXB
    by_cases hX0 : 0 < X.length
    · have hX0i : 0 < (X.length : Int) := by omega
      have HN0 := Lib.hid (HNO.out hX0)
      have HEM : Hid (SlI (w3.alloc (.cells #[] 2)) (.slice (some ⟨w3.heap.size, 0, none⟩) 0 0) []) := Lib.hid (OwI.sl (owI_empty w3 w3.heap.size (Nat.le_refl _)))
      have hba := below_alloc w3 (.cells #[] 2)
      have HGa := Lib.hid (HG3.out.ex hba); have HTa := Lib.hid (HT3.out.ex hba); have HMa := Lib.hid (HM3.out.ex hba); have HBa := Lib.hid (below_next0 HB3.out hba)
      clear hba HNO HG3 HT3 HM3 HB3
      go_wp2_with fail
      refine (HFR.out [] false _ _ HN0.out (by simp) HGa.out HTa.out HEM.out).mono ?_
      rintro e w4 ⟨rfl, hb4⟩
      have HB4 := Lib.hid (below_next0 HBa.out hb4); have HG4 := Lib.hid (HGa.out.ex hb4); have HT4 := Lib.hid (HTa.out.ex hb4); have HM4 := Lib.hid (HMa.out.ex hb4)
      clear hb4 HBa HGa HTa HMa HEM HN0
      by_cases hX1 : 1 < X.length
      · have hX1i : 1 < (X.length : Int) := by omega
        have HN1 : Hid (∀ y : Nat, y < ts.length → fe rooms ts [(y : Int)] = false) := Lib.hid (fun y hy => HON.out hX1 hy)
        have hn1 : 1 ≤ (ts.length : Int) := by omega
        clear HON
        go_wp2_with fail
        refine (a2At_any v1 x1 0 (ts.length : Int) _ HM4.out (by omega) hn1 (by omega)).mono ?_
        rintro e wA ⟨y, hy0, hy1, rfl, rfl⟩
        obtain ⟨yn, rfl⟩ := Int.eq_ofNat_of_zero_le hy0
        have HN2 := Lib.hid (HN1.out yn (show yn < ts.length by omega))
        have HEM : Hid (SlI (w4.alloc (.cells #[.int .i64 (yn : Int)] 2)) (.slice (some ⟨w4.heap.size, 0, none⟩) 1 1) [(yn : Int)]) := Lib.hid (OwI.sl (wpList_one (Nat.le_refl _) _))
        have hba := below_alloc w4 (.cells #[.int .i64 (yn : Int)] 2)
        have HGb := Lib.hid (HG4.out.ex hba); have HTb := Lib.hid (HT4.out.ex hba); have HBb := Lib.hid (below_next0 HB4.out hba)
        clear hba HN1 HG4 HT4 HM4 HB4
        go_wp2_with fail
        refine (HFR.out [(yn : Int)] false _ _ HN2.out (by intro x hx; obtain rfl := List.mem_singleton.1 hx; exact ⟨hy0, hy1⟩) HGb.out HTb.out HEM.out).mono ?_
        rintro e w5 ⟨rfl, hb5⟩
        have HB := Lib.hid (below_next0 HBb.out hb5); have HG := Lib.hid (HGb.out.ex hb5); have HT := Lib.hid (HTb.out.ex hb5)
        clear hb5 HBb HGb HTb HEM HN2 HFR
        generalize w5 = w9 at HB HG HT ⊢
        have HIC := Lib.hid (fun W (a : SlI W (.slice A rooms.length c) rooms) (b : SlGuest W (.slice B ts.length d) ts) => implCircle_any _ _ rooms ts W a b)
        have HCN := Lib.hid (fun W (a : SlI W (.slice A rooms.length c) rooms) (b : SlGuest W (.slice B ts.length d) ts) => specCan_any _ _ rooms ts W ⟨a, by omega⟩ ⟨b, by omega⟩)
        rw [show canR rooms ts = (canK rooms ts ts.length, 0) by unfold canR; rw [if_pos HOKR.out]] at HCN
        dsimp only at HCN
        have HHAS : Hid (∀ (k : Nat) (hk : k < ts.length), (canK rooms ts ts.length).contains (k : Int) = canP rooms ts ts[k]) := Lib.hid (fun k hk => canK_has hk)
        generalize canK rooms ts ts.length = CN at HCN HHAS
        rcases circR_tells HOKR.out with ⟨o, ho, hck⟩ | ho
        · have HCK := Lib.hid hck
          rw [ho] at HIC
          dsimp only at HIC
          have ho1 := hck.pos
          have ho2 := hck.len
          have hoz : ((o.length : Int) == 0) = false := beq_eq_false_iff_ne.2 (by omega)
          have hon : ¬ ((ts.length : Int) < (o.length : Int)) := by omega
          clear ho hck HOKR
          go_wp2_with fail
          refine (HIC.out _ HG.out HT.out).mono ?_
          rintro e wc ⟨Ac, cc, rfl, hoc, hbc⟩
          have HBc := Lib.hid (below_next0 HB.out hbc); have HGc := Lib.hid (HG.out.ex hbc); have HTc := Lib.hid (HT.out.ex hbc); have HOc : Hid (SlI wc (.slice Ac o.length cc) o) := Lib.hid (OwI.sl hoc)
          have hcc := Ow.cap hoc _ _ _ rfl
          clear hbc hoc HIC HB HG HT
          go_wp2_with fail
          refine (HCN.out _ HGc.out HTc.out).mono ?_
          rintro e we ⟨Ae, ce, rfl, hoe, hbe⟩
          have HBe := Lib.hid (below_next0 HBc.out hbe); have HTe := Lib.hid (HTc.out.ex hbe); have HOe := Lib.hid (HOc.out.ex hbe); have HCe : Hid (SlI we (.slice Ae CN.length ce) CN) := Lib.hid (OwI.sl hoe)
          clear hbe hoe HCN HBc HGc HTc HOc
          obtain ⟨A', c', hv9, _, hTc⟩ := HTe.out.op
          injection hv9 with hv9 hvn hv8
          clear hvn
          subst hv9 hv8
          have HTC := Lib.hid hTc
          clear hTc
          obtain ⟨A', c', hv9, _, hOc⟩ := HOe.out.op
          injection hv9 with hv9 hvn hv8
          clear hvn
          subst hv9 hv8
          have HOC := Lib.hid hOc
          clear hOc
          go_wp2
          go_loopw [13] (fun v13 wr => ∃ i : Nat, v13 = .int .i64 i ∧ i ≤ o.length ∧ Hid (Below we.heap.size we wr)) (fun v13 _ => o.length - (intOf v13).toNat)
          case atStart => exact ⟨0, rfl, Nat.zero_le _, Lib.hid (Below.refl _ _)⟩
          case round =>
            obtain ⟨i, rfl, hi, HR⟩ := hrel
            by_cases hlt : i < o.length
            · have hki : (i : Int) < (o.length : Int) := by omega
              obtain ⟨k, j, hk, hj, hok, hoj, hnew, hrest, hcan, hjk⟩ := HCK.out.at_ i hlt
              obtain ⟨q, hoi2, hmod, hoj⟩ : ∃ (q : Nat) (h : q < o.length), ((i : Int) + 1) % (o.length : Int) = (q : Int) ∧ o[q] = (j : Int) := ⟨(i + 1) % o.length, Nat.mod_lt _ (by omega), by simp [Int.natCast_emod], hoj⟩
              obtain ⟨bo, oo, hAO, hbo, hco⟩ := HOC.out i hlt
              have hox := (HR.out.cell (p := ⟨bo, oo + i, none⟩) hbo).trans (hco i hlt)
              have hoy := (HR.out.cell (p := ⟨bo, oo + q, none⟩) hbo).trans (hco q hoi2)
              rw [hok] at hox
              rw [hoj] at hoy
              obtain ⟨bt, ot, hBT, hbt, ht0, ht1⟩ := HTC.out k hk
              obtain ⟨bt2, ot2, hBT2, hbt2, hs0, hs1⟩ := HTC.out j hj
              have hbe : bt2 = bt ∧ ot2 = ot := by
                rw [hBT] at hBT2
                injection hBT2 with h
                injection h with h1 h2 _
                exact ⟨h1.symm, h2.symm⟩
              obtain ⟨rfl, rfl⟩ := hbe
              have hy0 := (HR.out.cell (p := ⟨bt2, ot2 + k * 2, none⟩) hbt).trans ht0
              have hy1 := (HR.out.cell (p := ⟨bt2, ot2 + k * 2 + 1, none⟩) hbt).trans ht1
              have hz0 := (HR.out.cell (p := ⟨bt2, ot2 + j * 2, none⟩) hbt).trans hs0
              have HOr := Lib.hid (HOe.out.ex HR.out)
              have HCr := Lib.hid (HCe.out.ex HR.out)
              have hcf : CN.contains (k : Int) = false := by rw [HHAS.out k hk]; exact hcan
              subst hAO
              have HHB : Hid (∀ n, Calls Try.prog 21 #[.slice Ae CN.length ce, .int .i64 (k : Int)] (wr.drewN n) fun e w' => e = .returned (.bool false) ∧ wr.drewN n = w') := Lib.hid fun n => by
                have h := a2HasQ_any _ CN (k : Int) (wr.drewN n) (HCr.out.drewN n)
                rw [hcf] at h; exact h
              have HHA : Hid (∀ n cx, Calls Try.prog 21 #[.slice (some ⟨bo, oo, none⟩) i cx, .int .i64 (k : Int)] (wr.drewN n) fun e w' => e = .returned (.bool false) ∧ wr.drewN n = w') := Lib.hid fun n cx => by
                have h1 : SlI (wr.drewN n) (.slice (some ⟨bo, oo + 0, none⟩) i cx) ((o.drop 0).take i) := slI_sub (c' := cx) (HOr.out.drewN n) rfl (by omega)
                have h := a2HasQ_any _ (o.take i) (k : Int) (wr.drewN n) h1
                rw [hnew] at h; exact h
              have hrb : (ts[k].here == ts[k].wants) = false := hrest
              have hjb : (ts[j].here == ts[k].wants) = true := by simpa using hjk
              have HHE : Hid (∀ n v, ((∃ cx, v = .slice (some ⟨bo, oo, none⟩) i cx) ∨ v = .slice Ae CN.length ce) → Calls Try.prog 21 #[v, .int .i64 (k : Int)] (wr.drewN n) fun e w' => e = .returned (.bool false) ∧ wr.drewN n = w') := Lib.hid (by
                rintro n v (⟨cx, rfl⟩ | rfl)
                · exact HHA.out n cx
                · exact HHB.out n)
              clear HHA HHB
              clear hok hoj hnew hrest hcan hjk hco ht0 ht1 hs0 hs1 HOr HCr hcf hBT2
              generalize ts[k].here = kh at hy0 hrb
              generalize ts[k].wants = kw at hy1 hrb hjb
              generalize ts[j].here = jh at hz0 hjb
              have hki2 : (k : Int) < (ts.length : Int) := by omega
              have hji2 : (j : Int) < (ts.length : Int) := by omega
              have hd1 : decide ((k : Int) < 0) = false := decide_eq_false (by omega)
              have hd2 : decide ((ts.length : Int) ≤ (k : Int)) = false := decide_eq_false (by omega)
              have hd3 : decide ((j : Int) < 0) = false := decide_eq_false (by omega)
              have hd4 : decide ((ts.length : Int) ≤ (j : Int)) = false := decide_eq_false (by omega)
              have hicc : i ≤ cc := by omega
              have hn2 : ¬ (ts.length ≤ k) := by omega
              have hn4 : ¬ (ts.length ≤ j) := by omega
              have hjn : (jh != kw) = false := by unfold bne; rw [hjb]; rfl
              subst hBT
              go_wp2
              go_quiet ((go_at_call 21; exact quiet_same_left (HHE.out _ _ (by first | exact Or.inl ⟨_, rfl⟩ | exact Or.inr rfl))))
              go_wp2
              go_roundw
              case rel => exact ⟨i + 1, by go_num, by omega, Lib.hid (below_drewN HR.out _)⟩
              case measure => simp [intOf]; omega
            · have hki : ¬ ((i : Int) < (o.length : Int)) := by omega
              go_wp2
              go_ret
              exact ⟨rfl, below_next0 HBe.out HR.out⟩
        · rw [ho] at HIC
          dsimp only at HIC
          clear ho HOKR HCN
          go_wp2_with fail
          refine (HIC.out _ HG.out HT.out).mono ?_
          rintro e wc ⟨Ac, cc, rfl, hoc, hbc⟩
          have HBc := Lib.hid (below_next0 HB.out hbc)
          clear hbc hoc HIC HB HG HT
          go_wp2
          go_ret
          exact ⟨rfl, HBc.out⟩
      · have hX1i : ¬ (1 < (X.length : Int)) := by omega
        have HB := HB4; have HG := HG4; have HT := HT4
        clear HB4 HG4 HT4 HM4 HON HFR
        generalize w4 = w9 at HB HG HT ⊢
        have HIC := Lib.hid (fun W (a : SlI W (.slice A rooms.length c) rooms) (b : SlGuest W (.slice B ts.length d) ts) => implCircle_any _ _ rooms ts W a b)
        have HCN := Lib.hid (fun W (a : SlI W (.slice A rooms.length c) rooms) (b : SlGuest W (.slice B ts.length d) ts) => specCan_any _ _ rooms ts W ⟨a, by omega⟩ ⟨b, by omega⟩)
        rw [show canR rooms ts = (canK rooms ts ts.length, 0) by unfold canR; rw [if_pos HOKR.out]] at HCN
        dsimp only at HCN
        have HHAS : Hid (∀ (k : Nat) (hk : k < ts.length), (canK rooms ts ts.length).contains (k : Int) = canP rooms ts ts[k]) := Lib.hid (fun k hk => canK_has hk)
        generalize canK rooms ts ts.length = CN at HCN HHAS
        rcases circR_tells HOKR.out with ⟨o, ho, hck⟩ | ho
        · have HCK := Lib.hid hck
          rw [ho] at HIC
          dsimp only at HIC
          have ho1 := hck.pos
          have ho2 := hck.len
          have hoz : ((o.length : Int) == 0) = false := beq_eq_false_iff_ne.2 (by omega)
          have hon : ¬ ((ts.length : Int) < (o.length : Int)) := by omega
          clear ho hck HOKR
          go_wp2_with fail
          refine (HIC.out _ HG.out HT.out).mono ?_
          rintro e wc ⟨Ac, cc, rfl, hoc, hbc⟩
          have HBc := Lib.hid (below_next0 HB.out hbc); have HGc := Lib.hid (HG.out.ex hbc); have HTc := Lib.hid (HT.out.ex hbc); have HOc : Hid (SlI wc (.slice Ac o.length cc) o) := Lib.hid (OwI.sl hoc)
          have hcc := Ow.cap hoc _ _ _ rfl
          clear hbc hoc HIC HB HG HT
          go_wp2_with fail
          refine (HCN.out _ HGc.out HTc.out).mono ?_
          rintro e we ⟨Ae, ce, rfl, hoe, hbe⟩
          have HBe := Lib.hid (below_next0 HBc.out hbe); have HTe := Lib.hid (HTc.out.ex hbe); have HOe := Lib.hid (HOc.out.ex hbe); have HCe : Hid (SlI we (.slice Ae CN.length ce) CN) := Lib.hid (OwI.sl hoe)
          clear hbe hoe HCN HBc HGc HTc HOc
          obtain ⟨A', c', hv9, _, hTc⟩ := HTe.out.op
          injection hv9 with hv9 hvn hv8
          clear hvn
          subst hv9 hv8
          have HTC := Lib.hid hTc
          clear hTc
          obtain ⟨A', c', hv9, _, hOc⟩ := HOe.out.op
          injection hv9 with hv9 hvn hv8
          clear hvn
          subst hv9 hv8
          have HOC := Lib.hid hOc
          clear hOc
          go_wp2
          go_loopw [13] (fun v13 wr => ∃ i : Nat, v13 = .int .i64 i ∧ i ≤ o.length ∧ Hid (Below we.heap.size we wr)) (fun v13 _ => o.length - (intOf v13).toNat)
          case atStart => exact ⟨0, rfl, Nat.zero_le _, Lib.hid (Below.refl _ _)⟩
          case round =>
            obtain ⟨i, rfl, hi, HR⟩ := hrel
            by_cases hlt : i < o.length
            · have hki : (i : Int) < (o.length : Int) := by omega
              obtain ⟨k, j, hk, hj, hok, hoj, hnew, hrest, hcan, hjk⟩ := HCK.out.at_ i hlt
              obtain ⟨q, hoi2, hmod, hoj⟩ : ∃ (q : Nat) (h : q < o.length), ((i : Int) + 1) % (o.length : Int) = (q : Int) ∧ o[q] = (j : Int) := ⟨(i + 1) % o.length, Nat.mod_lt _ (by omega), by simp [Int.natCast_emod], hoj⟩
              obtain ⟨bo, oo, hAO, hbo, hco⟩ := HOC.out i hlt
              have hox := (HR.out.cell (p := ⟨bo, oo + i, none⟩) hbo).trans (hco i hlt)
              have hoy := (HR.out.cell (p := ⟨bo, oo + q, none⟩) hbo).trans (hco q hoi2)
              rw [hok] at hox
              rw [hoj] at hoy
              obtain ⟨bt, ot, hBT, hbt, ht0, ht1⟩ := HTC.out k hk
              obtain ⟨bt2, ot2, hBT2, hbt2, hs0, hs1⟩ := HTC.out j hj
              have hbe : bt2 = bt ∧ ot2 = ot := by
                rw [hBT] at hBT2
                injection hBT2 with h
                injection h with h1 h2 _
                exact ⟨h1.symm, h2.symm⟩
              obtain ⟨rfl, rfl⟩ := hbe
              have hy0 := (HR.out.cell (p := ⟨bt2, ot2 + k * 2, none⟩) hbt).trans ht0
              have hy1 := (HR.out.cell (p := ⟨bt2, ot2 + k * 2 + 1, none⟩) hbt).trans ht1
              have hz0 := (HR.out.cell (p := ⟨bt2, ot2 + j * 2, none⟩) hbt).trans hs0
              have HOr := Lib.hid (HOe.out.ex HR.out)
              have HCr := Lib.hid (HCe.out.ex HR.out)
              have hcf : CN.contains (k : Int) = false := by rw [HHAS.out k hk]; exact hcan
              subst hAO
              have HHB : Hid (∀ n, Calls Try.prog 21 #[.slice Ae CN.length ce, .int .i64 (k : Int)] (wr.drewN n) fun e w' => e = .returned (.bool false) ∧ wr.drewN n = w') := Lib.hid fun n => by
                have h := a2HasQ_any _ CN (k : Int) (wr.drewN n) (HCr.out.drewN n)
                rw [hcf] at h; exact h
              have HHA : Hid (∀ n cx, Calls Try.prog 21 #[.slice (some ⟨bo, oo, none⟩) i cx, .int .i64 (k : Int)] (wr.drewN n) fun e w' => e = .returned (.bool false) ∧ wr.drewN n = w') := Lib.hid fun n cx => by
                have h1 : SlI (wr.drewN n) (.slice (some ⟨bo, oo + 0, none⟩) i cx) ((o.drop 0).take i) := slI_sub (c' := cx) (HOr.out.drewN n) rfl (by omega)
                have h := a2HasQ_any _ (o.take i) (k : Int) (wr.drewN n) h1
                rw [hnew] at h; exact h
              have hrb : (ts[k].here == ts[k].wants) = false := hrest
              have hjb : (ts[j].here == ts[k].wants) = true := by simpa using hjk
              have HHE : Hid (∀ n v, ((∃ cx, v = .slice (some ⟨bo, oo, none⟩) i cx) ∨ v = .slice Ae CN.length ce) → Calls Try.prog 21 #[v, .int .i64 (k : Int)] (wr.drewN n) fun e w' => e = .returned (.bool false) ∧ wr.drewN n = w') := Lib.hid (by
                rintro n v (⟨cx, rfl⟩ | rfl)
                · exact HHA.out n cx
                · exact HHB.out n)
              clear HHA HHB
              clear hok hoj hnew hrest hcan hjk hco ht0 ht1 hs0 hs1 HOr HCr hcf hBT2
              generalize ts[k].here = kh at hy0 hrb
              generalize ts[k].wants = kw at hy1 hrb hjb
              generalize ts[j].here = jh at hz0 hjb
              have hki2 : (k : Int) < (ts.length : Int) := by omega
              have hji2 : (j : Int) < (ts.length : Int) := by omega
              have hd1 : decide ((k : Int) < 0) = false := decide_eq_false (by omega)
              have hd2 : decide ((ts.length : Int) ≤ (k : Int)) = false := decide_eq_false (by omega)
              have hd3 : decide ((j : Int) < 0) = false := decide_eq_false (by omega)
              have hd4 : decide ((ts.length : Int) ≤ (j : Int)) = false := decide_eq_false (by omega)
              have hicc : i ≤ cc := by omega
              have hn2 : ¬ (ts.length ≤ k) := by omega
              have hn4 : ¬ (ts.length ≤ j) := by omega
              have hjn : (jh != kw) = false := by unfold bne; rw [hjb]; rfl
              subst hBT
              go_wp2
              go_quiet ((go_at_call 21; exact quiet_same_left (HHE.out _ _ (by first | exact Or.inl ⟨_, rfl⟩ | exact Or.inr rfl))))
              go_wp2
              go_roundw
              case rel => exact ⟨i + 1, by go_num, by omega, Lib.hid (below_drewN HR.out _)⟩
              case measure => simp [intOf]; omega
            · have hki : ¬ ((i : Int) < (o.length : Int)) := by omega
              go_wp2
              go_ret
              exact ⟨rfl, below_next0 HBe.out HR.out⟩
        · rw [ho] at HIC
          dsimp only at HIC
          clear ho HOKR HCN
          go_wp2_with fail
          refine (HIC.out _ HG.out HT.out).mono ?_
          rintro e wc ⟨Ac, cc, rfl, hoc, hbc⟩
          have HBc := Lib.hid (below_next0 HB.out hbc)
          clear hbc hoc HIC HB HG HT
          go_wp2
          go_ret
          exact ⟨rfl, HBc.out⟩
    · have hX0i : ¬ (0 < (X.length : Int)) := by omega
      have hX1i : ¬ (1 < (X.length : Int)) := by omega
      have HB := HB3; have HG := HG3; have HT := HT3
      clear HB3 HG3 HT3 HM3 HON HFR HNO
      generalize w3 = w9 at HB HG HT ⊢
      have HIC := Lib.hid (fun W (a : SlI W (.slice A rooms.length c) rooms) (b : SlGuest W (.slice B ts.length d) ts) => implCircle_any _ _ rooms ts W a b)
      have HCN := Lib.hid (fun W (a : SlI W (.slice A rooms.length c) rooms) (b : SlGuest W (.slice B ts.length d) ts) => specCan_any _ _ rooms ts W ⟨a, by omega⟩ ⟨b, by omega⟩)
      rw [show canR rooms ts = (canK rooms ts ts.length, 0) by unfold canR; rw [if_pos HOKR.out]] at HCN
      dsimp only at HCN
      have HHAS : Hid (∀ (k : Nat) (hk : k < ts.length), (canK rooms ts ts.length).contains (k : Int) = canP rooms ts ts[k]) := Lib.hid (fun k hk => canK_has hk)
      generalize canK rooms ts ts.length = CN at HCN HHAS
      rcases circR_tells HOKR.out with ⟨o, ho, hck⟩ | ho
      · have HCK := Lib.hid hck
        rw [ho] at HIC
        dsimp only at HIC
        have ho1 := hck.pos
        have ho2 := hck.len
        have hoz : ((o.length : Int) == 0) = false := beq_eq_false_iff_ne.2 (by omega)
        have hon : ¬ ((ts.length : Int) < (o.length : Int)) := by omega
        clear ho hck HOKR
        go_wp2_with fail
        refine (HIC.out _ HG.out HT.out).mono ?_
        rintro e wc ⟨Ac, cc, rfl, hoc, hbc⟩
        have HBc := Lib.hid (below_next0 HB.out hbc); have HGc := Lib.hid (HG.out.ex hbc); have HTc := Lib.hid (HT.out.ex hbc); have HOc : Hid (SlI wc (.slice Ac o.length cc) o) := Lib.hid (OwI.sl hoc)
        have hcc := Ow.cap hoc _ _ _ rfl
        clear hbc hoc HIC HB HG HT
        go_wp2_with fail
        refine (HCN.out _ HGc.out HTc.out).mono ?_
        rintro e we ⟨Ae, ce, rfl, hoe, hbe⟩
        have HBe := Lib.hid (below_next0 HBc.out hbe); have HTe := Lib.hid (HTc.out.ex hbe); have HOe := Lib.hid (HOc.out.ex hbe); have HCe : Hid (SlI we (.slice Ae CN.length ce) CN) := Lib.hid (OwI.sl hoe)
        clear hbe hoe HCN HBc HGc HTc HOc
        obtain ⟨A', c', hv9, _, hTc⟩ := HTe.out.op
        injection hv9 with hv9 hvn hv8
        clear hvn
        subst hv9 hv8
        have HTC := Lib.hid hTc
        clear hTc
        obtain ⟨A', c', hv9, _, hOc⟩ := HOe.out.op
        injection hv9 with hv9 hvn hv8
        clear hvn
        subst hv9 hv8
        have HOC := Lib.hid hOc
        clear hOc
        go_wp2
        go_loopw [13] (fun v13 wr => ∃ i : Nat, v13 = .int .i64 i ∧ i ≤ o.length ∧ Hid (Below we.heap.size we wr)) (fun v13 _ => o.length - (intOf v13).toNat)
        case atStart => exact ⟨0, rfl, Nat.zero_le _, Lib.hid (Below.refl _ _)⟩
        case round =>
          obtain ⟨i, rfl, hi, HR⟩ := hrel
          by_cases hlt : i < o.length
          · have hki : (i : Int) < (o.length : Int) := by omega
            obtain ⟨k, j, hk, hj, hok, hoj, hnew, hrest, hcan, hjk⟩ := HCK.out.at_ i hlt
            obtain ⟨q, hoi2, hmod, hoj⟩ : ∃ (q : Nat) (h : q < o.length), ((i : Int) + 1) % (o.length : Int) = (q : Int) ∧ o[q] = (j : Int) := ⟨(i + 1) % o.length, Nat.mod_lt _ (by omega), by simp [Int.natCast_emod], hoj⟩
            obtain ⟨bo, oo, hAO, hbo, hco⟩ := HOC.out i hlt
            have hox := (HR.out.cell (p := ⟨bo, oo + i, none⟩) hbo).trans (hco i hlt)
            have hoy := (HR.out.cell (p := ⟨bo, oo + q, none⟩) hbo).trans (hco q hoi2)
            rw [hok] at hox
            rw [hoj] at hoy
            obtain ⟨bt, ot, hBT, hbt, ht0, ht1⟩ := HTC.out k hk
            obtain ⟨bt2, ot2, hBT2, hbt2, hs0, hs1⟩ := HTC.out j hj
            have hbe : bt2 = bt ∧ ot2 = ot := by
              rw [hBT] at hBT2
              injection hBT2 with h
              injection h with h1 h2 _
              exact ⟨h1.symm, h2.symm⟩
            obtain ⟨rfl, rfl⟩ := hbe
            have hy0 := (HR.out.cell (p := ⟨bt2, ot2 + k * 2, none⟩) hbt).trans ht0
            have hy1 := (HR.out.cell (p := ⟨bt2, ot2 + k * 2 + 1, none⟩) hbt).trans ht1
            have hz0 := (HR.out.cell (p := ⟨bt2, ot2 + j * 2, none⟩) hbt).trans hs0
            have HOr := Lib.hid (HOe.out.ex HR.out)
            have HCr := Lib.hid (HCe.out.ex HR.out)
            have hcf : CN.contains (k : Int) = false := by rw [HHAS.out k hk]; exact hcan
            subst hAO
            have HHB : Hid (∀ n, Calls Try.prog 21 #[.slice Ae CN.length ce, .int .i64 (k : Int)] (wr.drewN n) fun e w' => e = .returned (.bool false) ∧ wr.drewN n = w') := Lib.hid fun n => by
              have h := a2HasQ_any _ CN (k : Int) (wr.drewN n) (HCr.out.drewN n)
              rw [hcf] at h; exact h
            have HHA : Hid (∀ n cx, Calls Try.prog 21 #[.slice (some ⟨bo, oo, none⟩) i cx, .int .i64 (k : Int)] (wr.drewN n) fun e w' => e = .returned (.bool false) ∧ wr.drewN n = w') := Lib.hid fun n cx => by
              have h1 : SlI (wr.drewN n) (.slice (some ⟨bo, oo + 0, none⟩) i cx) ((o.drop 0).take i) := slI_sub (c' := cx) (HOr.out.drewN n) rfl (by omega)
              have h := a2HasQ_any _ (o.take i) (k : Int) (wr.drewN n) h1
              rw [hnew] at h; exact h
            have hrb : (ts[k].here == ts[k].wants) = false := hrest
            have hjb : (ts[j].here == ts[k].wants) = true := by simpa using hjk
            have HHE : Hid (∀ n v, ((∃ cx, v = .slice (some ⟨bo, oo, none⟩) i cx) ∨ v = .slice Ae CN.length ce) → Calls Try.prog 21 #[v, .int .i64 (k : Int)] (wr.drewN n) fun e w' => e = .returned (.bool false) ∧ wr.drewN n = w') := Lib.hid (by
              rintro n v (⟨cx, rfl⟩ | rfl)
              · exact HHA.out n cx
              · exact HHB.out n)
            clear HHA HHB
            clear hok hoj hnew hrest hcan hjk hco ht0 ht1 hs0 hs1 HOr HCr hcf hBT2
            generalize ts[k].here = kh at hy0 hrb
            generalize ts[k].wants = kw at hy1 hrb hjb
            generalize ts[j].here = jh at hz0 hjb
            have hki2 : (k : Int) < (ts.length : Int) := by omega
            have hji2 : (j : Int) < (ts.length : Int) := by omega
            have hd1 : decide ((k : Int) < 0) = false := decide_eq_false (by omega)
            have hd2 : decide ((ts.length : Int) ≤ (k : Int)) = false := decide_eq_false (by omega)
            have hd3 : decide ((j : Int) < 0) = false := decide_eq_false (by omega)
            have hd4 : decide ((ts.length : Int) ≤ (j : Int)) = false := decide_eq_false (by omega)
            have hicc : i ≤ cc := by omega
            have hn2 : ¬ (ts.length ≤ k) := by omega
            have hn4 : ¬ (ts.length ≤ j) := by omega
            have hjn : (jh != kw) = false := by unfold bne; rw [hjb]; rfl
            subst hBT
            go_wp2
            go_quiet ((go_at_call 21; exact quiet_same_left (HHE.out _ _ (by first | exact Or.inl ⟨_, rfl⟩ | exact Or.inr rfl))))
            go_wp2
            go_roundw
            case rel => exact ⟨i + 1, by go_num, by omega, Lib.hid (below_drewN HR.out _)⟩
            case measure => simp [intOf]; omega
          · have hki : ¬ ((i : Int) < (o.length : Int)) := by omega
            go_wp2
            go_ret
            exact ⟨rfl, below_next0 HBe.out HR.out⟩
      · rw [ho] at HIC
        dsimp only at HIC
        clear ho HOKR HCN
        go_wp2_with fail
        refine (HIC.out _ HG.out HT.out).mono ?_
        rintro e wc ⟨Ac, cc, rfl, hoc, hbc⟩
        have HBc := Lib.hid (below_next0 HB.out hbc)
        clear hbc hoc HIC HB HG HT
        go_wp2
        go_ret
        exact ⟨rfl, HBc.out⟩

set_option maxRecDepth 100000 in
theorem fewestOut_lifted (os : Os) (started : os.Started) (H : Type) (enc : TypeId × Value → H) :
    ReturnsInHanded {} Try.checked os 3 .any (Rows.fnFewestOutSpec.pre6 enc Try.checked.prog Try.f3 Rows.fnFewestOutRow.domain false) (Rows.fnFewestOutSpec.post enc Try.checked.prog Try.f3 false true false false) := by
  refine law_lifted os started H enc (by kernel_rfl) Try.func3
    (ChangeSpec.witness6 (enc := enc) (C := Try.checked) false ⟨#[], #[.slice none 0 0, .slice none 0 0], []⟩ 8 (by kernel_rfl) (by kernel_rfl) (by kernel_rfl) (by kernel_rfl))
    rfl rfl rfl (by rw [Try.params3]; intro t ht; simp only [List.mem_cons, List.not_mem_nil, or_false] at ht; rcases ht with rfl | rfl <;> exact ⟨by kernel_rfl, of_decide_eq_true (by kernel_rfl)⟩)
    (fun ds hl => by match ds, hl with | [d0, d1], _ => exact ⟨rfl, rfl, rfl⟩) ?_
  intro W base args ds p hval hA hlt hsz
  rw [Try.params3] at hA hval hsz
  obtain ⟨v0, vs0, d0, ds0, p0, q0, hargs, rfl, rfl, h0, r0⟩ := trodAll_cons hA
  obtain ⟨v1, vs1, d1, ds1, p1, q1, rfl, rfl, rfl, h1, r1⟩ := trodAll_cons r0
  obtain ⟨rfl, rfl, rfl⟩ := trodAll_nil r1
  obtain rfl : args = #[v0, v1] := by cases args; simp_all
  obtain ⟨x0, hx0⟩ := argB Try.underlying22 Try.underlying5 (by kernel_rfl) (by kernel_rfl) (hval 0 _ _ rfl rfl) h0 (weight_arg hsz (j := 0) rfl rfl)
  obtain ⟨x1, hx1⟩ := argB Try.underlying22 Try.underlying5 (by kernel_rfl) (by kernel_rfl) (hval 1 _ _ rfl rfl) h1 (weight_arg hsz (j := 1) rfl rfl)
  exact lawFewestOut_any _ _ x0 x1 W hx0 hx1

theorem fewestOut_holds : Rows.FnFewestOutSaid :=
  OpenClaim.holds_of_wide 3 Try.f3 rfl rfl rfl rfl rfl rfl rfl ⟨rfl, rfl, rfl, rfl, rfl⟩ rfl rfl rfl rfl rfl (by kernel_rfl) Try.func3 (by kernel_rfl)
    (of_decide_eq_true (by kernel_rfl)) (by unfold Func.isWrapper; first | (rw [if_pos (by decide +kernel)]; kernel_rfl) | (rw [if_neg (by decide +kernel)]; exact ⟨rfl, rfl⟩))
    (fun os started H enc _ => fewestOut_lifted os started H enc)
#print axioms fewestOut_holds
end Go.Proofs.Ytedoibgclplnaaa
