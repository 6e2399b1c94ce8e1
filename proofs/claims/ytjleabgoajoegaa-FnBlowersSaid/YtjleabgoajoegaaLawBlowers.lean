/-
FnBlowers returns true for all arguments: the best day meets all needs and costs no more than the cheapest hours, and what a day costs is made of hours and starts; the argument stays as it was. No condition beyond the form's own reach.
-/
import Derived.Test.YtjleabgoajoegaaRows
import Derived.Test.YtjleabgoajoegaaLaw
import Derived.Test.YtjleabgoajoegaaBlQ
namespace Go.Proofs.Ytjleabgoajoegaa
open Go.ChangeShapes Go.WideShapes Go.ChangeAt Go.RowKit Go.Deep Go.Joins
set_option linter.unusedVariables false

set_option maxRecDepth 100000 in
set_option maxHeartbeats 16000000 in
theorem lawBlowers_any (v0 : Value) (x0 : List Int) (w : World) (h0 : SlB w v0 x0) : Calls Try.prog 14 #[v0] w fun e w' => e = .returned (.bool true) ∧ Below w.heap.size w w' := by
  have HV1 := Lib.hid h0
  have HBG := Lib.hid (f6big_any v0 x0 w h0)
  clear h0
  by_cases hl : 4096 < x0.length
  · rw [decide_eq_true hl] at HBG
    go_enter Try.func14, Try.ntmps14
    go_wp2_with fail
    refine HBG.out.mono ?_
    rintro e w1 ⟨rfl, rfl⟩
    go_wp2
    go_ret
    exact ⟨rfl, Below.refl _ _⟩
  · rw [decide_eq_false hl] at HBG
    have HB1 := Lib.hid (Below.refl w.heap.size w)
    go_enter Try.func14, Try.ntmps14
    go_wp2_with fail
    refine HBG.out.mono ?_
    rintro e w1 ⟨rfl, rfl⟩
    clear HBG
    go_wp2_with fail
    refine (drawBest_any v0 x0 _ HV1.out (by omega)).mono ?_
    rintro e w2 ⟨va, ua, ta, na, ⟨Aa, ca, rfl⟩, ⟨Ba, da, rfl⟩, rfl, hv, hu, hb2⟩
    have HB2 := Lib.hid (below_next0 HB1.out hb2); have HV2 := Lib.hid (HV1.out.ex hb2)
    have HT2 := Lib.hid hv; have HN2 := Lib.hid hu
    clear hv hu hb2 HV1 HB1
    have HBT : Hid ((bdR ta na).2.2 = 0 → DayK ta na (bdR ta na).1 (eachL ta na na.length) (bdR ta na).2.1) := Lib.hid best_tells
    have HI := Lib.hid (fun W (a : SlBlower W (.slice Aa ta.length ca) ta) (b : SlI W (.slice Ba na.length da) na) => implBest_any _ _ ta na W a b)
    have HS := Lib.hid (fun W (a : SlBlower W (.slice Aa ta.length ca) ta) (b : SlI W (.slice Ba na.length da) na) => specBest_any _ _ ta na W a b)
    have HNB := Lib.hid (best_bd (ts := ta) (ns := na))
    generalize (bdR ta na).1 = O at HBT HI HS
    generalize (bdR ta na).2.1 = cost at HBT HI HS
    generalize (bdR ta na).2.2 = bad at HBT HI HS HNB
    go_wp2_with fail
    refine (HI.out _ HT2.out HN2.out).mono ?_
    rintro e w3 ⟨A3, c3, rfl, ho3, hb3⟩
    have HB3 := Lib.hid (below_next0 HB2.out hb3); have HV3 := Lib.hid (HV2.out.ex hb3); have HT3 := Lib.hid (HT2.out.ex hb3); have HN3 := Lib.hid (HN2.out.ex hb3)
    have HO3 : Hid (SlI w3 (.slice A3 O.length c3) O) := Lib.hid (Ow.sl ho3)
    clear hb3 HI ho3 HV2 HT2 HN2 HB2
    go_wp2_with fail
    refine (HS.out _ HT3.out HN3.out).mono ?_
    rintro e w4 ⟨A4, c4, rfl, ho4, hb4⟩
    have HB4 := Lib.hid (below_next0 HB3.out hb4); have HV4 := Lib.hid (HV3.out.ex hb4); have HT4 := Lib.hid (HT3.out.ex hb4); have HN4 := Lib.hid (HN3.out.ex hb4); have HO4 := Lib.hid (HO3.out.ex hb4)
    have HM4 : Hid (SlI w4 (.slice A4 O.length c4) O) := Lib.hid (Ow.sl ho4)
    clear hb4 HS ho4 HV3 HT3 HN3 HO3 HB3
    go_wp2_with fail
    refine (drawCheap_any v0 x0 _ HV4.out (by omega)).mono ?_
    rintro e w5 ⟨vb, tb, nb, hnb, ⟨Ab, cb, rfl⟩, rfl, hv, hb5⟩
    have HB5 := Lib.hid (below_next0 HB4.out hb5); have HV5 := Lib.hid (HV4.out.ex hb5); have HT5 := Lib.hid (HT4.out.ex hb5); have HN5 := Lib.hid (HN4.out.ex hb5); have HO5 := Lib.hid (HO4.out.ex hb5); have HM5 := Lib.hid (HM4.out.ex hb5)
    have HA5 := Lib.hid hv
    clear hv hb5 HV4 HT4 HN4 HO4 HM4 HB4
    have HI := Lib.hid (fun W (a : SlBlower W (.slice Ab tb.length cb) tb) => implCheapestHour_any _ tb nb W a hnb)
    have HS := Lib.hid (fun W (a : SlBlower W (.slice Ab tb.length cb) tb) => specCheapestHour_any _ tb nb W a hnb)
    generalize (chR tb nb).1 = q1 at HI HS
    generalize (chR tb nb).2 = q2 at HI HS
    clear hnb
    go_wp2_with fail
    refine (HI.out _ HA5.out).mono ?_
    rintro e w6 ⟨rfl, hb6⟩
    have HB6 := Lib.hid (below_next0 HB5.out hb6); have HV6 := Lib.hid (HV5.out.ex hb6); have HT6 := Lib.hid (HT5.out.ex hb6); have HN6 := Lib.hid (HN5.out.ex hb6); have HO6 := Lib.hid (HO5.out.ex hb6); have HM6 := Lib.hid (HM5.out.ex hb6); have HA6 := Lib.hid (HA5.out.ex hb6)
    clear hb6 HI HV5 HT5 HN5 HO5 HM5 HA5 HB5
    go_wp2_with fail
    refine (HS.out _ HA6.out).mono ?_
    rintro e w7 ⟨rfl, hb7⟩
    have HB7 := Lib.hid (below_next0 HB6.out hb7); have HV7 := Lib.hid (HV6.out.ex hb7); have HT7 := Lib.hid (HT6.out.ex hb7); have HN7 := Lib.hid (HN6.out.ex hb7); have HO7 := Lib.hid (HO6.out.ex hb7); have HM7 := Lib.hid (HM6.out.ex hb7)
    clear hb7 HS HV6 HT6 HN6 HO6 HM6 HA6 HB6
    go_wp2_with fail
    refine (drawCost_any v0 x0 _ HV7.out (by omega)).mono ?_
    rintro e w8 ⟨vc, uc, tc, sc, ⟨Ac, cc, rfl⟩, ⟨Bc, dc, rfl⟩, rfl, hv, hu, hb8⟩
    have HB8 := Lib.hid (below_next0 HB7.out hb8); have HV8 := Lib.hid (HV7.out.ex hb8); have HT8 := Lib.hid (HT7.out.ex hb8); have HN8 := Lib.hid (HN7.out.ex hb8); have HO8 := Lib.hid (HO7.out.ex hb8); have HM8 := Lib.hid (HM7.out.ex hb8)
    have HC8 := Lib.hid hv; have HD8 := Lib.hid hu
    clear hv hu hb8 HV7 HT7 HN7 HO7 HM7 HB7
    have HCT := Lib.hid (one_tells2 (ts := tc) (ss := sc))
    have HI := Lib.hid (fun W (a : SlBlower W (.slice Ac tc.length cc) tc) (b : SlI W (.slice Bc sc.length dc) sc) => implCostOfDay_any _ _ tc sc W a b)
    have HS := Lib.hid (fun W (a : SlBlower W (.slice Ac tc.length cc) tc) (b : SlI W (.slice Bc sc.length dc) sc) => specCostOfDay_any _ _ tc sc W a b)
    generalize (costR tc sc).1 = sum at HCT HI HS
    generalize (costR tc sc).2 = cd at HCT HI HS
    go_wp2_with fail
    refine (HI.out _ HC8.out HD8.out).mono ?_
    rintro e w9 ⟨rfl, hb9⟩
    have HB9 := Lib.hid (below_next0 HB8.out hb9); have HV9 := Lib.hid (HV8.out.ex hb9); have HT9 := Lib.hid (HT8.out.ex hb9); have HN9 := Lib.hid (HN8.out.ex hb9); have HO9 := Lib.hid (HO8.out.ex hb9); have HM9 := Lib.hid (HM8.out.ex hb9); have HC9 := Lib.hid (HC8.out.ex hb9); have HD9 := Lib.hid (HD8.out.ex hb9)
    clear hb9 HI HV8 HT8 HN8 HO8 HM8 HC8 HD8 HB8
    go_wp2_with fail
    refine (HS.out _ HC9.out HD9.out).mono ?_
    rintro e w10 ⟨rfl, hb10⟩
    have HB10 := Lib.hid (below_next0 HB9.out hb10); have HV10 := Lib.hid (HV9.out.ex hb10); have HT10 := Lib.hid (HT9.out.ex hb10); have HN10 := Lib.hid (HN9.out.ex hb10); have HO10 := Lib.hid (HO9.out.ex hb10); have HM10 := Lib.hid (HM9.out.ex hb10); have HC10 := Lib.hid (HC9.out.ex hb10); have HD10 := Lib.hid (HD9.out.ex hb10)
    clear hb10 HS HV9 HT9 HN9 HO9 HM9 HC9 HD9 HB9
    go_wp2_with fail
    refine (drawMeet_any v0 x0 _ HV10.out (by omega)).mono ?_
    rintro e w11 ⟨vd, ud, xd, td, nd, sd, ⟨Ad, cd1, rfl⟩, ⟨Bd, dd, rfl⟩, ⟨Cd, ed, rfl⟩, rfl, hv, hu, hx, hb11⟩
    have HB11 := Lib.hid (below_next0 HB10.out hb11); have HV11 := Lib.hid (HV10.out.ex hb11); have HT11 := Lib.hid (HT10.out.ex hb11); have HN11 := Lib.hid (HN10.out.ex hb11); have HO11 := Lib.hid (HO10.out.ex hb11); have HM11 := Lib.hid (HM10.out.ex hb11); have HC11 := Lib.hid (HC10.out.ex hb11); have HD11 := Lib.hid (HD10.out.ex hb11)
    have HE11 := Lib.hid hv; have HF11 := Lib.hid hu; have HG11 := Lib.hid hx
    clear hv hu hx hb11 HV10 HT10 HN10 HO10 HM10 HC10 HD10 HB10
    have HI := Lib.hid (fun W (a : SlBlower W (.slice Ad td.length cd1) td) (b : SlI W (.slice Bd nd.length dd) nd) (c : SlI W (.slice Cd sd.length ed) sd) => implMeetsNeeds_any _ _ _ td nd sd W a b c)
    have HS := Lib.hid (fun W (a : SlBlower W (.slice Ad td.length cd1) td) (b : SlI W (.slice Bd nd.length dd) nd) (c : SlI W (.slice Cd sd.length ed) sd) => specMeetsNeeds_any _ _ _ td nd sd W a b c)
    generalize (meetR td nd sd).1 = m1 at HI HS
    generalize (meetR td nd sd).2 = m2 at HI HS
    go_wp2_with fail
    refine (HI.out _ HE11.out HF11.out HG11.out).mono ?_
    rintro e w12 ⟨rfl, hb12⟩
    have HB12 := Lib.hid (below_next0 HB11.out hb12); have HV12 := Lib.hid (HV11.out.ex hb12); have HT12 := Lib.hid (HT11.out.ex hb12); have HN12 := Lib.hid (HN11.out.ex hb12); have HO12 := Lib.hid (HO11.out.ex hb12); have HM12 := Lib.hid (HM11.out.ex hb12); have HC12 := Lib.hid (HC11.out.ex hb12); have HD12 := Lib.hid (HD11.out.ex hb12); have HE12 := Lib.hid (HE11.out.ex hb12); have HF12 := Lib.hid (HF11.out.ex hb12); have HG12 := Lib.hid (HG11.out.ex hb12)
    clear hb12 HI HV11 HT11 HN11 HO11 HM11 HC11 HD11 HE11 HF11 HG11 HB11
    go_wp2_with fail
    refine (HS.out _ HE12.out HF12.out HG12.out).mono ?_
    rintro e w13 ⟨rfl, hb13⟩
    have HB13 := Lib.hid (below_next0 HB12.out hb13); have HV13 := Lib.hid (HV12.out.ex hb13); have HT13 := Lib.hid (HT12.out.ex hb13); have HN13 := Lib.hid (HN12.out.ex hb13); have HO13 := Lib.hid (HO12.out.ex hb13); have HM13 := Lib.hid (HM12.out.ex hb13); have HC13 := Lib.hid (HC12.out.ex hb13); have HD13 := Lib.hid (HD12.out.ex hb13)
    clear hb13 HS HV12 HT12 HN12 HO12 HM12 HC12 HD12 HE12 HF12 HG12 HB12
    go_wp2_with fail
    refine (drawPow_any v0 x0 _ HV13.out (by omega)).mono ?_
    rintro e w14 ⟨ve, te, ne, hne, ⟨Ae, ce, rfl⟩, rfl, hv, hb14⟩
    have HB14 := Lib.hid (below_next0 HB13.out hb14); have HV14 := Lib.hid (HV13.out.ex hb14); have HT14 := Lib.hid (HT13.out.ex hb14); have HN14 := Lib.hid (HN13.out.ex hb14); have HO14 := Lib.hid (HO13.out.ex hb14); have HM14 := Lib.hid (HM13.out.ex hb14); have HC14 := Lib.hid (HC13.out.ex hb14); have HD14 := Lib.hid (HD13.out.ex hb14)
    have HP14 := Lib.hid hv
    clear hv hb14 HV13 HT13 HN13 HO13 HM13 HC13 HD13 HB13
    have HI := Lib.hid (fun W (a : SlBlower W (.slice Ae te.length ce) te) => implPowerOf_any _ te ne W a hne)
    have HS := Lib.hid (fun W (a : SlBlower W (.slice Ae te.length ce) te) => specPowerOf_any _ te ne W a hne)
    have HJ := Lib.hid (fun W (a : SlBlower W (.slice Ae te.length ce) te) => implSetText_any _ te ne W a hne)
    have HK := Lib.hid (fun W (a : SlBlower W (.slice Ae te.length ce) te) => specSetText_any _ te ne W a hne)
    generalize (powR te ne).1 = p1 at HI HS
    generalize (powR te ne).2 = p2 at HI HS
    generalize textR te ne = tx at HJ HK
    clear hne
    clear HV14
    go_wp2_with fail
    refine (HI.out _ HP14.out).mono ?_
    rintro e w15 ⟨rfl, hb15⟩
    have HB15 := Lib.hid (below_next0 HB14.out hb15); have HT15 := Lib.hid (HT14.out.ex hb15); have HN15 := Lib.hid (HN14.out.ex hb15); have HO15 := Lib.hid (HO14.out.ex hb15); have HM15 := Lib.hid (HM14.out.ex hb15); have HC15 := Lib.hid (HC14.out.ex hb15); have HD15 := Lib.hid (HD14.out.ex hb15); have HP15 := Lib.hid (HP14.out.ex hb15)
    clear hb15 HI HT14 HN14 HO14 HM14 HC14 HD14 HP14 HB14
    go_wp2_with fail
    refine (HS.out _ HP15.out).mono ?_
    rintro e w16 ⟨rfl, hb16⟩
    have HB16 := Lib.hid (below_next0 HB15.out hb16); have HT16 := Lib.hid (HT15.out.ex hb16); have HN16 := Lib.hid (HN15.out.ex hb16); have HO16 := Lib.hid (HO15.out.ex hb16); have HM16 := Lib.hid (HM15.out.ex hb16); have HC16 := Lib.hid (HC15.out.ex hb16); have HD16 := Lib.hid (HD15.out.ex hb16); have HP16 := Lib.hid (HP15.out.ex hb16)
    clear hb16 HS HT15 HN15 HO15 HM15 HC15 HD15 HP15 HB15
    go_wp2_with fail
    refine (f6ints_any _ _ O _ HO16.out HM16.out).mono ?_
    rintro e w17 ⟨rfl, hb17⟩
    have HB17 := Lib.hid (below_next0 HB16.out hb17); have HT17 := Lib.hid (HT16.out.ex hb17); have HN17 := Lib.hid (HN16.out.ex hb17); have HO17 := Lib.hid (HO16.out.ex hb17); have HC17 := Lib.hid (HC16.out.ex hb17); have HD17 := Lib.hid (HD16.out.ex hb17); have HP17 := Lib.hid (HP16.out.ex hb17)
    clear hb17  HT16 HN16 HO16 HM16 HC16 HD16 HP16 HB16
    go_wp2_with fail
    refine (HJ.out _ HP17.out).mono ?_
    rintro e w18 ⟨rfl, hb18⟩
    have HB18 := Lib.hid (below_next0 HB17.out hb18); have HT18 := Lib.hid (HT17.out.ex hb18); have HN18 := Lib.hid (HN17.out.ex hb18); have HO18 := Lib.hid (HO17.out.ex hb18); have HC18 := Lib.hid (HC17.out.ex hb18); have HD18 := Lib.hid (HD17.out.ex hb18); have HP18 := Lib.hid (HP17.out.ex hb18)
    clear hb18 HJ HT17 HN17 HO17 HC17 HD17 HP17 HB17
    go_wp2_with fail
    refine (HK.out _ HP18.out).mono ?_
    rintro e w19 ⟨rfl, hb19⟩
    have HB19 := Lib.hid (below_next0 HB18.out hb19); have HT19 := Lib.hid (HT18.out.ex hb19); have HN19 := Lib.hid (HN18.out.ex hb19); have HO19 := Lib.hid (HO18.out.ex hb19); have HC19 := Lib.hid (HC18.out.ex hb19); have HD19 := Lib.hid (HD18.out.ex hb19)
    clear hb19 HK HT18 HN18 HO18 HC18 HD18 HP18 HB18
    go_wp2_with fail
    refine (validBlowers_any _ ta _ HT19.out).mono ?_
    rintro e w20 ⟨rfl, hb20⟩
    have HB20 := Lib.hid (below_next0 HB19.out hb20); have HT20 := Lib.hid (HT19.out.ex hb20); have HN20 := Lib.hid (HN19.out.ex hb20); have HO20 := Lib.hid (HO19.out.ex hb20); have HC20 := Lib.hid (HC19.out.ex hb20); have HD20 := Lib.hid (HD19.out.ex hb20)
    clear hb20  HT19 HN19 HO19 HC19 HD19 HB19
    go_wp2_with fail
    refine (specValidBlowers_any _ ta _ HT20.out).mono ?_
    rintro e w21 ⟨rfl, hb21⟩
    have HB21 := Lib.hid (below_next0 HB20.out hb21); have HT21 := Lib.hid (HT20.out.ex hb21); have HN21 := Lib.hid (HN20.out.ex hb21); have HO21 := Lib.hid (HO20.out.ex hb21); have HC21 := Lib.hid (HC20.out.ex hb21); have HD21 := Lib.hid (HD20.out.ex hb21)
    clear hb21  HT20 HN20 HO20 HC20 HD20 HB20
    go_wp2_with fail
    refine (validNeeds_any _ na _ HN21.out).mono ?_
    rintro e w22 ⟨rfl, hb22⟩
    have HB22 := Lib.hid (below_next0 HB21.out hb22); have HT22 := Lib.hid (HT21.out.ex hb22); have HN22 := Lib.hid (HN21.out.ex hb22); have HO22 := Lib.hid (HO21.out.ex hb22); have HC22 := Lib.hid (HC21.out.ex hb22); have HD22 := Lib.hid (HD21.out.ex hb22)
    clear hb22  HT21 HN21 HO21 HC21 HD21 HB21
    go_wp2_with fail
    refine (specValidNeeds_b _ na _ HN22.out).mono ?_
    rintro e w23 ⟨rfl, hb23⟩
    have HB23 := Lib.hid (below_next0 HB22.out hb23); have HT23 := Lib.hid (HT22.out.ex hb23); have HN23 := Lib.hid (HN22.out.ex hb23); have HO23 := Lib.hid (HO22.out.ex hb23); have HC23 := Lib.hid (HC22.out.ex hb23); have HD23 := Lib.hid (HD22.out.ex hb23)
    clear hb23  HT22 HN22 HO22 HC22 HD22 HB22
    generalize needsOk na = okn
    generalize blowersOk ta = okb
    by_cases hcd : cd = 0
    · subst hcd
      obtain ⟨h4, hs, ho⟩ := HCT.out rfl
      have HOT := Lib.hid ho; have HSU := Lib.hid hs
      clear HCT ho hs
      go_wp2
      go_loopw [36, 37] (fun tt i wr => ∃ k : Nat, k ≤ tc.length ∧ i = .int .i64 k ∧ tt = .int .i64 (sumN (tT tc sc sc.length) k) ∧ Hid (Below w23.heap.size w23 wr)) (fun _ i _ => tc.length - (intOf i).toNat)
      case atStart => exact ⟨0, Nat.zero_le _, rfl, rfl, Lib.hid (Below.refl _ _)⟩
      case round =>
        obtain ⟨k, hk, rfl, rfl, HBR⟩ := hrel
        by_cases hlt : k < tc.length
        · have hlti : (k : Int) < (tc.length : Int) := by omega
          obtain ⟨wq, hwq⟩ : ∃ x : World, x = wr := ⟨wr, rfl⟩; subst hwq
          have HCR := Lib.hid (HC23.out.ex HBR.out); have HDR := Lib.hid (HD23.out.ex HBR.out)
          obtain ⟨hh, st, e1, e2, ⟨a1, a2⟩, ⟨a3, a4⟩, ⟨a5, a6⟩, ⟨a7, a8⟩, ⟨a9, a10⟩, e3⟩ := HOT.out k hlt
          have hki : -9223372036854775808 ≤ (k : Int) ∧ (k : Int) ≤ 9223372036854775807 := by omega
          have HIH := Lib.hid (fun W (a : SlBlower W (.slice Ac tc.length cc) tc) (b : SlI W (.slice Bc sc.length dc) sc) => implHours_any _ _ tc sc (k : Int) W a b hki)
          have HIS := Lib.hid (fun W (a : SlBlower W (.slice Ac tc.length cc) tc) (b : SlI W (.slice Bc sc.length dc) sc) => implStarts_any _ _ tc sc (k : Int) W a b hki)
          rw [e1] at HIH; rw [e2] at HIS; dsimp only at HIH HIS
          have HE3 := Lib.hid e3
          clear e1 e2 e3 hki
          obtain ⟨Ax, cx, hvx, hl9, hcl⟩ := HCR.out.op
          injection hvx with hvx _ hvy; subst hvx hvy
          obtain ⟨b9, o9, rfl, hbs, hc0, hc1, hc2⟩ := hcl k hlt
          have HCL := Lib.hid hcl; clear hcl
          have f1 : 0 ≤ hh * tc[k].hour := Int.mul_nonneg a1 a5
          have f2 : hh * tc[k].hour ≤ 24 * 10000 := Int.mul_le_mul a2 a6 a5 (by omega)
          have f3 : 0 ≤ st * tc[k].start := Int.mul_nonneg a3 a7
          have f4 : st * tc[k].start ≤ 24 * 10000 := Int.mul_le_mul a4 a8 a7 (by omega)
          generalize sumN (tT tc sc sc.length) k = s0 at a9 a10 HE3
          go_wp2_with fail
          refine (HIH.out _ HCR.out HDR.out).mono ?_
          rintro e ws ⟨rfl, hb1⟩
          have HBS := Lib.hid (below_next0 HBR.out hb1); have HCS := Lib.hid (HCR.out.ex hb1); have HDS := Lib.hid (HDR.out.ex hb1)
          replace hbs := Nat.lt_of_lt_of_le hbs hb1.size
          clear hc0 hc1 hc2 hbs hb1 HIH
          go_wp2_with fail
          refine (HIS.out _ HCS.out HDS.out).mono ?_
          rintro e wt ⟨rfl, hb2⟩
          have HBT2 := Lib.hid (below_next0 HBS.out hb2); have HCT2 := Lib.hid (HCS.out.ex hb2)
          clear hb2 HIS HBS HCS HDS HCR HDR HBR
          obtain ⟨Ax, cx, hvx, hl8, hcl⟩ := HCT2.out.op
          injection hvx with hvx _ hvy; subst hvx hvy
          obtain ⟨b8, o8, hbo, hbs, hc0, hc1, hc2⟩ := hcl k hlt
          injection hbo with hbo; injection hbo with hbo1 hbo2 _; subst hbo1 hbo2
          clear hcl
          generalize tc[k] = x at hc0 hc1 hc2 HE3 a5 a6 a7 a8 f1 f2 f3 f4
          go_wp2
          go_region
          go_wp2
          go_roundw
          case rel => exact ⟨k + 1, by omega, by go_num, by rw [HE3.out], Lib.hid (below_drewN HBT2.out _)⟩
          case measure => simp [intOf]; omega
        · obtain rfl : k = tc.length := by omega
          obtain ⟨w24, hwq⟩ : ∃ x : World, x = wr := ⟨wr, rfl⟩; subst hwq
          rw [← HSU.out]
          have HB24 := Lib.hid (below_next0 HB23.out HBR.out); have HT24 := Lib.hid (HT23.out.ex HBR.out); have HN24 := Lib.hid (HN23.out.ex HBR.out); have HO24 := Lib.hid (HO23.out.ex HBR.out); have HC24 := Lib.hid (HC23.out.ex HBR.out); have HD24 := Lib.hid (HD23.out.ex HBR.out)
          clear HBR HOT HSU HT23 HN23 HO23 HC23 HD23 HB23
          by_cases hbad : bad = 0
          · subst hbad
            have HK := Lib.hid (HBT.out rfl); have HNC := Lib.hid (HNB.out rfl); clear HNB
            clear HBT
            have HIM := Lib.hid (fun W (a : SlBlower W (.slice Aa ta.length ca) ta) (b : SlI W (.slice Ba na.length da) na) (c : SlI W (.slice A3 O.length c3) O) => implMeetsNeeds_any _ _ _ ta na O W a b c)
            have HIC := Lib.hid (fun W (a : SlBlower W (.slice Aa ta.length ca) ta) (c : SlI W (.slice A3 O.length c3) O) => implCostOfDay_any _ _ ta O W a c)
            rw [HK.out.meets] at HIM; rw [HK.out.own] at HIC; dsimp only at HIM HIC
            go_wp2_with fail
            refine (HIM.out _ HT24.out HN24.out HO24.out).mono ?_
            rintro e w25 ⟨rfl, hb25⟩
            have HB25 := Lib.hid (below_next0 HB24.out hb25); have HT25 := Lib.hid (HT24.out.ex hb25); have HN25 := Lib.hid (HN24.out.ex hb25); have HO25 := Lib.hid (HO24.out.ex hb25); have HC25 := Lib.hid (HC24.out.ex hb25); have HD25 := Lib.hid (HD24.out.ex hb25)
            clear hb25 HIM HT24 HN24 HO24 HC24 HD24 HB24
            go_wp2_with fail
            refine (HIC.out _ HT25.out HO25.out).mono ?_
            rintro e w26 ⟨rfl, hb26⟩
            have HB26 := Lib.hid (below_next0 HB25.out hb26); have HT26 := Lib.hid (HT25.out.ex hb26); have HN26 := Lib.hid (HN25.out.ex hb26); have HC26 := Lib.hid (HC25.out.ex hb26); have HD26 := Lib.hid (HD25.out.ex hb26)
            clear hb26 HIC HT25 HN25 HO25 HC25 HD25 HB25
            go_wp2
            go_loopw [46, 47] (fun l i wr => ∃ (k : Nat) (A9 : Option Addr) (c9 : Nat), k ≤ na.length ∧ i = .int .i64 k ∧ l = .slice A9 k c9 ∧ Hid (OwI wr w26.heap.size (.slice A9 k c9) (eachL ta na k)) ∧ Hid (Below w26.heap.size w26 wr)) (fun _ i _ => na.length - (intOf i).toNat)
            case atStart => exact ⟨0, _, _, Nat.zero_le _, rfl, rfl, Lib.hid (owI_empty w26 w26.heap.size (Nat.le_refl _)), Lib.hid (below_alloc _ _)⟩
            case round =>
              obtain ⟨k, A9, c9, hk, rfl, rfl, HOW, HBR⟩ := hrel
              obtain ⟨wq, hwq⟩ : ∃ x : World, x = wr := ⟨wr, rfl⟩; subst hwq
              have HTR := Lib.hid (HT26.out.ex HBR.out); have HNR := Lib.hid (HN26.out.ex HBR.out)
              by_cases hlt : k < na.length
              · have hlti : (k : Int) < (na.length : Int) := by omega
                obtain ⟨Ax, cx, hvx, hl9, hcl⟩ := HNR.out.op
                injection hvx with hvx _ hvy; subst hvx hvy
                obtain ⟨b9, o9, rfl, hbs, hcc⟩ := hcl k hlt
                have hcell := hcc k hlt
                obtain ⟨ch, hch, hnx⟩ := HK.out.cheap k hlt
                have HCC := Lib.hid (fun W (a : SlBlower W (.slice Aa ta.length ca) ta) => specCheapestHour_any _ ta na[k] W a (HNC.out.2 k hlt))
                rw [hch] at HCC; dsimp only at HCC
                have HNX := Lib.hid hnx
                have HLE : Hid ((eachL ta na k).length = k) := Lib.hid (eachL_len (by omega))
                have hl24 : na.length ≤ 24 := HNC.out.1
                clear hnx hch hcc hcl
                generalize na[k] = x at hcell HCC
                go_wp2_with fail
                refine (HCC.out _ HTR.out).mono ?_
                rintro e ws ⟨rfl, hbs1⟩
                have HBS := Lib.hid (below_next0 HBR.out hbs1); have HOS := Lib.hid (HOW.out.ex hbs1)
                clear hbs1 HCC HTR HNR
                go_wp2_with (first | (at_builtin; refine wpList_appI ws rfl (.tmp 333) (.tmp 335) rfl w26.heap.size w26.heap.size w26 A9 k c9 _ _ _ _ rfl HOS.out HLE.out rfl HBS.out (Nat.le_refl _) HBS.out.size (by omega) ?_; intro A4 c4 w7 hown3 hg3 hsz3 hb3; have HO7 := Lib.hid hown3; have HB7 := Lib.hid hb3; clear hown3 hg3 hsz3 hb3) | fail)
                rw [← HNX.out] at HO7
                go_roundw
                case rel => exact ⟨k + 1, A4, c4, by omega, by go_num, rfl, HO7, HB7⟩
                case measure => simp [intOf]; omega
              · obtain rfl : k = na.length := by omega
                have HB9 := Lib.hid (below_next0 HB26.out HBR.out)
                obtain ⟨ex, hex, hle⟩ := HK.out.easy
                have HLE : Hid ((eachL ta na na.length).length = na.length) := Lib.hid (eachL_len (Nat.le_refl _))
                have HSE : Hid (SlI wq (.slice A9 na.length c9) (eachL ta na na.length)) := Lib.hid (Ow.sl HOW.out)
                have HCE := Lib.hid (specCostOfDay_any _ _ ta (eachL ta na na.length) wq HTR.out HSE.out)
                rw [hex] at HCE; dsimp only at HCE
                have hle2 : decide (cost ≤ ex) = true := decide_eq_true hle
                clear hex HK HNR HOW
                go_wp2_with fail
                refine HCE.out.mono ?_
                rintro e ws ⟨rfl, hbs1⟩
                have HBS := Lib.hid (below_next0 HB9.out hbs1)
                clear hbs1
                go_wp2
                go_ret
                exact ⟨rfl, HBS.out⟩
          · have hb1 : (bad != 0) = true := by simpa using hbad
            clear hbad HBT HNB
            go_wp2
            go_ret
            exact ⟨rfl, HB24.out⟩
    · have hcdb : (cd == 0) = false := by simpa using hcd
      clear HCT hcd
      by_cases hbad : bad = 0
      · subst hbad
        have HK := Lib.hid (HBT.out rfl); have HNC := Lib.hid (HNB.out rfl); clear HNB
        clear HBT
        have HIM := Lib.hid (fun W (a : SlBlower W (.slice Aa ta.length ca) ta) (b : SlI W (.slice Ba na.length da) na) (c : SlI W (.slice A3 O.length c3) O) => implMeetsNeeds_any _ _ _ ta na O W a b c)
        have HIC := Lib.hid (fun W (a : SlBlower W (.slice Aa ta.length ca) ta) (c : SlI W (.slice A3 O.length c3) O) => implCostOfDay_any _ _ ta O W a c)
        rw [HK.out.meets] at HIM; rw [HK.out.own] at HIC; dsimp only at HIM HIC
        go_wp2_with fail
        refine (HIM.out _ HT23.out HN23.out HO23.out).mono ?_
        rintro e w24 ⟨rfl, hb24⟩
        have HB24 := Lib.hid (below_next0 HB23.out hb24); have HT24 := Lib.hid (HT23.out.ex hb24); have HN24 := Lib.hid (HN23.out.ex hb24); have HO24 := Lib.hid (HO23.out.ex hb24); have HC24 := Lib.hid (HC23.out.ex hb24); have HD24 := Lib.hid (HD23.out.ex hb24)
        clear hb24 HIM HT23 HN23 HO23 HC23 HD23 HB23
        go_wp2_with fail
        refine (HIC.out _ HT24.out HO24.out).mono ?_
        rintro e w25 ⟨rfl, hb25⟩
        have HB25 := Lib.hid (below_next0 HB24.out hb25); have HT25 := Lib.hid (HT24.out.ex hb25); have HN25 := Lib.hid (HN24.out.ex hb25); have HC25 := Lib.hid (HC24.out.ex hb25); have HD25 := Lib.hid (HD24.out.ex hb25)
        clear hb25 HIC HT24 HN24 HO24 HC24 HD24 HB24
        go_wp2
        go_loopw [46, 47] (fun l i wr => ∃ (k : Nat) (A9 : Option Addr) (c9 : Nat), k ≤ na.length ∧ i = .int .i64 k ∧ l = .slice A9 k c9 ∧ Hid (OwI wr w25.heap.size (.slice A9 k c9) (eachL ta na k)) ∧ Hid (Below w25.heap.size w25 wr)) (fun _ i _ => na.length - (intOf i).toNat)
        case atStart => exact ⟨0, _, _, Nat.zero_le _, rfl, rfl, Lib.hid (owI_empty w25 w25.heap.size (Nat.le_refl _)), Lib.hid (below_alloc _ _)⟩
        case round =>
          obtain ⟨k, A9, c9, hk, rfl, rfl, HOW, HBR⟩ := hrel
          obtain ⟨wq, hwq⟩ : ∃ x : World, x = wr := ⟨wr, rfl⟩; subst hwq
          have HTR := Lib.hid (HT25.out.ex HBR.out); have HNR := Lib.hid (HN25.out.ex HBR.out)
          by_cases hlt : k < na.length
          · have hlti : (k : Int) < (na.length : Int) := by omega
            obtain ⟨Ax, cx, hvx, hl9, hcl⟩ := HNR.out.op
            injection hvx with hvx _ hvy; subst hvx hvy
            obtain ⟨b9, o9, rfl, hbs, hcc⟩ := hcl k hlt
            have hcell := hcc k hlt
            obtain ⟨ch, hch, hnx⟩ := HK.out.cheap k hlt
            have HCC := Lib.hid (fun W (a : SlBlower W (.slice Aa ta.length ca) ta) => specCheapestHour_any _ ta na[k] W a (HNC.out.2 k hlt))
            rw [hch] at HCC; dsimp only at HCC
            have HNX := Lib.hid hnx
            have HLE : Hid ((eachL ta na k).length = k) := Lib.hid (eachL_len (by omega))
            have hl24 : na.length ≤ 24 := HNC.out.1
            clear hnx hch hcc hcl
            generalize na[k] = x at hcell HCC
            go_wp2_with fail
            refine (HCC.out _ HTR.out).mono ?_
            rintro e ws ⟨rfl, hbs1⟩
            have HBS := Lib.hid (below_next0 HBR.out hbs1); have HOS := Lib.hid (HOW.out.ex hbs1)
            clear hbs1 HCC HTR HNR
            go_wp2_with (first | (at_builtin; refine wpList_appI ws rfl (.tmp 333) (.tmp 335) rfl w25.heap.size w25.heap.size w25 A9 k c9 _ _ _ _ rfl HOS.out HLE.out rfl HBS.out (Nat.le_refl _) HBS.out.size (by omega) ?_; intro A4 c4 w7 hown3 hg3 hsz3 hb3; have HO7 := Lib.hid hown3; have HB7 := Lib.hid hb3; clear hown3 hg3 hsz3 hb3) | fail)
            rw [← HNX.out] at HO7
            go_roundw
            case rel => exact ⟨k + 1, A4, c4, by omega, by go_num, rfl, HO7, HB7⟩
            case measure => simp [intOf]; omega
          · obtain rfl : k = na.length := by omega
            have HB9 := Lib.hid (below_next0 HB25.out HBR.out)
            obtain ⟨ex, hex, hle⟩ := HK.out.easy
            have HLE : Hid ((eachL ta na na.length).length = na.length) := Lib.hid (eachL_len (Nat.le_refl _))
            have HSE : Hid (SlI wq (.slice A9 na.length c9) (eachL ta na na.length)) := Lib.hid (Ow.sl HOW.out)
            have HCE := Lib.hid (specCostOfDay_any _ _ ta (eachL ta na na.length) wq HTR.out HSE.out)
            rw [hex] at HCE; dsimp only at HCE
            have hle2 : decide (cost ≤ ex) = true := decide_eq_true hle
            clear hex HK HNR HOW
            go_wp2_with fail
            refine HCE.out.mono ?_
            rintro e ws ⟨rfl, hbs1⟩
            have HBS := Lib.hid (below_next0 HB9.out hbs1)
            clear hbs1
            go_wp2
            go_ret
            exact ⟨rfl, HBS.out⟩
      · have hb1 : (bad != 0) = true := by simpa using hbad
        clear hbad HBT HNB
        go_wp2
        go_ret
        exact ⟨rfl, HB23.out⟩

set_option maxRecDepth 100000 in
theorem blowers_lifted (os : Os) (started : os.Started) (H : Type) (enc : TypeId × Value → H) :
    ReturnsInHanded {} Try.checked os 14 .any (Rows.fnBlowersSpec.pre6 enc Try.checked.prog Try.f14 Rows.fnBlowersRow.domain false) (Rows.fnBlowersSpec.post enc Try.checked.prog Try.f14 false true false false) := by
  refine law_lifted os started H enc (by kernel_rfl) Try.func14
    (ChangeSpec.witness6 (enc := enc) (C := Try.checked) false ⟨#[], #[.slice none 0 0], []⟩ 8 (by kernel_rfl) (by kernel_rfl) (by kernel_rfl) (by kernel_rfl))
    rfl rfl rfl (by rw [Try.params14]; intro t ht; simp only [List.mem_cons, List.not_mem_nil, or_false] at ht; subst ht; exact ⟨by kernel_rfl, of_decide_eq_true (by kernel_rfl)⟩)
    (fun ds hl => by match ds, hl with | [d0], _ => exact ⟨rfl, rfl, rfl⟩) ?_
  intro W base args ds p hval hA hlt hsz
  rw [Try.params14] at hA hval hsz
  obtain ⟨v0, vs0, d0, ds0, p0, q0, hargs, rfl, rfl, h0, r0⟩ := trodAll_cons hA
  obtain ⟨rfl, rfl, rfl⟩ := trodAll_nil r0
  obtain rfl : args = #[v0] := by cases args; simp_all
  obtain ⟨x0, hx0⟩ := argB Try.underlying49 Try.underlying5 (by kernel_rfl) (by kernel_rfl) (hval 0 _ _ rfl rfl) h0 (weight_arg hsz (j := 0) rfl rfl)
  exact lawBlowers_any _ x0 W hx0

theorem blowers_holds : Rows.FnBlowersSaid :=
  OpenClaim.holds_of_wide 14 Try.f14 rfl rfl rfl rfl rfl rfl rfl ⟨rfl, rfl, rfl, rfl, rfl⟩ rfl rfl rfl rfl rfl (by kernel_rfl) Try.func14 (by kernel_rfl)
    (of_decide_eq_true (by kernel_rfl)) (by unfold Func.isWrapper; first | (rw [if_pos (by decide +kernel)]; kernel_rfl) | (rw [if_neg (by decide +kernel)]; exact ⟨rfl, rfl⟩))
    (fun os started H enc _ => blowers_lifted os started H enc)
#print axioms blowers_holds
end Go.Proofs.Ytjleabgoajoegaa
