/-
FnDelays returns true for all arguments: the delay at a share holds it, classes hold all trips, shares lie between none and all, the mean lies between the least and the greatest delay, and the spread is none just where all are alike; the argument stays as it was. Condition: the table of powers of ten reads as the program's text lays it, and the card ties that to the text.
-/
import Derived.Test.YthpijecjifmnbaaDoorRows
import Derived.Test.YthpijecjifmnbaaDoorTie
import Derived.Test.YthpijecjifmnbaaDoorCards
import Derived.Test.YthpijecjifmnbaaDoorLaw
import Derived.Test.YthpijecjifmnbaaDoorDlyQ
import Derived.LaidMore
import Derived.Stop.LaidErr
import Derived.Lib.LaidTab
import Derived.SevenTiedAt
namespace Go.Proofs.YthpijecjifmnbaaDoor
open Go Go.ChangeShapes Go.WideShapes Go.ChangeAt Go.RowKit Go.Deep Go.Joins
set_option linter.unusedVariables false

set_option maxRecDepth 100000 in
set_option maxHeartbeats 32000000 in
theorem lawDelays_any (v0 : Value) (x0 : List Int) (w : World) (h0 : SlB w v0 x0) (ht0 : Tab10 w) : Calls Tryd.prog 4 #[v0] w fun e w' => e = .returned (.bool true) ∧ Below w.heap.size w w' := by
  have HV1 := Lib.hid h0; have HTB1 := Lib.hid ht0
  have HBG := Lib.hid (f6big_any v0 x0 w h0)
  clear h0 ht0
  by_cases hl : 4096 < x0.length
  · rw [decide_eq_true hl] at HBG
    go_enter Tryd.func4, Tryd.ntmps4
    go_wp2_with fail
    refine HBG.out.mono ?_
    rintro e w1 ⟨rfl, rfl⟩
    go_wp2
    go_ret
    exact ⟨rfl, Below.refl _ _⟩
  · rw [decide_eq_false hl] at HBG
    have HB1 := Lib.hid (Below.refl w.heap.size w)
    go_enter Tryd.func4, Tryd.ntmps4
    go_wp2_with fail
    refine HBG.out.mono ?_
    rintro e w1 ⟨rfl, rfl⟩
    clear HBG
    go_wp2_with fail
    refine (drawDas_any v0 x0 _ HV1.out (by omega)).mono ?_
    rintro e w2 ⟨Aa, na, ca, ta, pq, hpq, hna, hna1, rfl, -, hv, hb2⟩
    have HB2 := Lib.hid (below_next0 HB1.out hb2); have HV2 := Lib.hid (HV1.out.ex hb2); have HTB2 := Lib.hid (HTB1.out.ex hb2)
    have HT2 := Lib.hid hv
    clear hv hb2 HB1 HV1 HTB1
    subst hna
    have HDT := Lib.hid (das_tells (ts := ta) (p := pq)); have HMT := Lib.hid (mean_tells (ts := ta)); have HSP := Lib.hid (spread_tells (ts := ta))
    have HI := Lib.hid (fun W (a : SlTrip W (.slice Aa ta.length ca) ta) => implDas_any _ ta pq W a hpq)
    have HS := Lib.hid (fun W (a : SlTrip W (.slice Aa ta.length ca) ta) => specDas_any _ ta pq W a hpq)
    have HMI := Lib.hid (fun W (a : SlTrip W (.slice Aa ta.length ca) ta) => implMean_any _ ta W a)
    have HMS := Lib.hid (fun W (a : SlTrip W (.slice Aa ta.length ca) ta) => specMean_any _ ta W a)
    have HPI := Lib.hid (fun W (a : SlTrip W (.slice Aa ta.length ca) ta) => implSpread_any _ ta W a)
    have HPS := Lib.hid (fun W (a : SlTrip W (.slice Aa ta.length ca) ta) => specSpread_any _ ta W a)
    have HSM : Hid ((spreadR ta).2.2 = (meanR ta).2.2) := Lib.hid (by unfold spreadR meanR; split <;> rfl)
    have HDM : Hid ((dasR ta pq).2 = 0 → (meanR ta).2.2 = 0) := Lib.hid (das_mean)
    rw [HSM.out] at HPI HPS
    clear HSM
    generalize (dasR ta pq).1 = dn at HDT HI HS
    generalize (dasR ta pq).2 = bad at HDT HI HS HDM
    generalize (meanR ta).1 = mn at HMT HMI HMS
    generalize (meanR ta).2.1 = md at HMT HMI HMS
    generalize (meanR ta).2.2 = mc at HMT HMI HMS HPI HPS HDM
    generalize (spreadR ta).1 = sn at HMT HSP HPI HPS
    generalize (spreadR ta).2.1 = sd at HPI HPS
    go_wp2_with fail
    refine (HI.out _ HT2.out).mono ?_
    rintro e w3 ⟨rfl, hb3⟩
    have HB3 := Lib.hid (below_next0 HB2.out hb3); have HV3 := Lib.hid (HV2.out.ex hb3); have HTB3 := Lib.hid (HTB2.out.ex hb3); have HT3 := Lib.hid (HT2.out.ex hb3)
    clear hb3 HI HB2 HV2 HTB2 HT2
    go_wp2_with fail
    refine (HS.out _ HT3.out).mono ?_
    rintro e w4 ⟨rfl, hb4⟩
    have HB4 := Lib.hid (below_next0 HB3.out hb4); have HV4 := Lib.hid (HV3.out.ex hb4); have HTB4 := Lib.hid (HTB3.out.ex hb4); have HT4 := Lib.hid (HT3.out.ex hb4)
    clear hb4 HS HB3 HV3 HTB3 HT3
    go_wp2_with fail
    refine (HMI.out _ HT4.out).mono ?_
    rintro e w5 ⟨rfl, hb5⟩
    have HB5 := Lib.hid (below_next0 HB4.out hb5); have HV5 := Lib.hid (HV4.out.ex hb5); have HTB5 := Lib.hid (HTB4.out.ex hb5); have HT5 := Lib.hid (HT4.out.ex hb5)
    clear hb5 HMI HB4 HV4 HTB4 HT4
    have hba := below_alloc w5 (.cells #[.int .i64 mn, .int .i64 md] 36)
    have HB5a := Lib.hid (below_next0 HB5.out hba); have HV5a := Lib.hid (HV5.out.ex hba); have HTB5a := Lib.hid (HTB5.out.ex hba); have HT5a := Lib.hid (HT5.out.ex hba)
    have XF5a := Lib.hid (Box2.new w5 (.int .i64 mn) (.int .i64 md) 36)
    clear hba HB5 HV5 HTB5 HT5
    go_wp2_with fail
    refine (HMS.out _ HT5a.out).mono ?_
    rintro e w6 ⟨rfl, hb6⟩
    have HB6 := Lib.hid (below_next0 HB5a.out hb6); have HV6 := Lib.hid (HV5a.out.ex hb6); have HTB6 := Lib.hid (HTB5a.out.ex hb6); have HT6 := Lib.hid (HT5a.out.ex hb6); have XF6 := Lib.hid (XF5a.out.ex hb6)
    clear hb6 HMS HB5a HV5a HTB5a HT5a XF5a
    have hba := below_alloc w6 (.cells #[.int .i64 mn, .int .i64 md] 36)
    have HB6a := Lib.hid (below_next0 HB6.out hba); have HV6a := Lib.hid (HV6.out.ex hba); have HTB6a := Lib.hid (HTB6.out.ex hba); have HT6a := Lib.hid (HT6.out.ex hba); have XF6a := Lib.hid (XF6.out.ex hba)
    have XM6a := Lib.hid (Box2.new w6 (.int .i64 mn) (.int .i64 md) 36)
    clear hba HB6 HV6 HTB6 HT6 XF6
    go_wp2_with fail
    refine (drawSh_any v0 x0 _ HV6a.out (by omega)).mono ?_
    rintro e w7 ⟨Ab, nb, cb, tb, xq, hxq, hnb, hnb1, rfl, -, hv, hb7⟩
    have HB7 := Lib.hid (below_next0 HB6a.out hb7); have HV7 := Lib.hid (HV6a.out.ex hb7); have HTB7 := Lib.hid (HTB6a.out.ex hb7); have HT7 := Lib.hid (HT6a.out.ex hb7); have XF7 := Lib.hid (XF6a.out.ex hb7); have XM7 := Lib.hid (XM6a.out.ex hb7)
    have HU7 := Lib.hid hv
    clear hv hb7 HB6a HV6a HTB6a HT6a XF6a XM6a
    subst hnb
    have HST := Lib.hid (share_tells (ts := tb) (n := xq))
    have HI := Lib.hid (fun W (a : SlTrip W (.slice Ab tb.length cb) tb) => implShare_any _ tb xq W a hxq)
    have HS := Lib.hid (fun W (a : SlTrip W (.slice Ab tb.length cb) tb) => specShare_any _ tb xq W a hxq)
    generalize (shareR tb xq).1 = gn at HST HI HS
    generalize (shareR tb xq).2.1 = gd at HST HI HS
    generalize (shareR tb xq).2.2 = gc at HST HI HS
    go_wp2_with fail
    refine (HI.out _ HU7.out).mono ?_
    rintro e w8 ⟨rfl, hb8⟩
    have HB8 := Lib.hid (below_next0 HB7.out hb8); have HV8 := Lib.hid (HV7.out.ex hb8); have HTB8 := Lib.hid (HTB7.out.ex hb8); have HT8 := Lib.hid (HT7.out.ex hb8); have XF8 := Lib.hid (XF7.out.ex hb8); have XM8 := Lib.hid (XM7.out.ex hb8); have HU8 := Lib.hid (HU7.out.ex hb8)
    clear hb8 HI HB7 HV7 HTB7 HT7 XF7 XM7 HU7
    have hba := below_alloc w8 (.cells #[.int .i64 gn, .int .i64 gd] 36)
    have HB8a := Lib.hid (below_next0 HB8.out hba); have HV8a := Lib.hid (HV8.out.ex hba); have HTB8a := Lib.hid (HTB8.out.ex hba); have HT8a := Lib.hid (HT8.out.ex hba); have XF8a := Lib.hid (XF8.out.ex hba); have XM8a := Lib.hid (XM8.out.ex hba); have HU8a := Lib.hid (HU8.out.ex hba)
    have XG8a := Lib.hid (Box2.new w8 (.int .i64 gn) (.int .i64 gd) 36)
    clear hba HB8 HV8 HTB8 HT8 XF8 XM8 HU8
    go_wp2_with fail
    refine (HS.out _ HU8a.out).mono ?_
    rintro e w9 ⟨rfl, hb9⟩
    have HB9 := Lib.hid (below_next0 HB8a.out hb9); have HV9 := Lib.hid (HV8a.out.ex hb9); have HTB9 := Lib.hid (HTB8a.out.ex hb9); have HT9 := Lib.hid (HT8a.out.ex hb9); have XF9 := Lib.hid (XF8a.out.ex hb9); have XM9 := Lib.hid (XM8a.out.ex hb9); have XG9 := Lib.hid (XG8a.out.ex hb9)
    clear hb9 HS HB8a HV8a HTB8a HT8a XF8a XM8a HU8a XG8a
    have hba := below_alloc w9 (.cells #[.int .i64 gn, .int .i64 gd] 36)
    have HB9a := Lib.hid (below_next0 HB9.out hba); have HV9a := Lib.hid (HV9.out.ex hba); have HTB9a := Lib.hid (HTB9.out.ex hba); have HT9a := Lib.hid (HT9.out.ex hba); have XF9a := Lib.hid (XF9.out.ex hba); have XM9a := Lib.hid (XM9.out.ex hba); have XG9a := Lib.hid (XG9.out.ex hba)
    have XS9a := Lib.hid (Box2.new w9 (.int .i64 gn) (.int .i64 gd) 36)
    clear hba HB9 HV9 HTB9 HT9 XF9 XM9 XG9
    go_wp2_with fail
    refine (drawCls_any v0 x0 _ HV9a.out (by omega)).mono ?_
    rintro e w10 ⟨Ac, nc, cc, tc, wq, kq, hwq, hkq, hnc, hnc1, rfl, hv, hb10⟩
    have HB10 := Lib.hid (below_next0 HB9a.out hb10); have HV10 := Lib.hid (HV9a.out.ex hb10); have HTB10 := Lib.hid (HTB9a.out.ex hb10); have HT10 := Lib.hid (HT9a.out.ex hb10); have XF10 := Lib.hid (XF9a.out.ex hb10); have XM10 := Lib.hid (XM9a.out.ex hb10); have XG10 := Lib.hid (XG9a.out.ex hb10); have XS10 := Lib.hid (XS9a.out.ex hb10)
    have HC10 := Lib.hid hv
    clear hv hb10 HB9a HV9a HTB9a HT9a XF9a XM9a XG9a XS9a
    subst hnc
    have HCT := Lib.hid (classes_tell (ts := tc) (wd := wq) (cl := kq))
    have HI := Lib.hid (fun W (a : SlTrip W (.slice Ac tc.length cc) tc) => implClasses_any _ tc wq kq W a hwq hkq)
    have HS := Lib.hid (fun W (a : SlTrip W (.slice Ac tc.length cc) tc) => specClasses_any _ tc wq kq W a hwq hkq)
    generalize (classesR tc wq kq).1 = L at HCT HI HS
    generalize (classesR tc wq kq).2 = lc at HCT HI HS
    go_wp2_with fail
    refine (HI.out _ HC10.out).mono ?_
    rintro e w11 ⟨A5, c5, rfl, ho, hb11⟩
    have HB11 := Lib.hid (below_next0 HB10.out hb11); have HV11 := Lib.hid (HV10.out.ex hb11); have HTB11 := Lib.hid (HTB10.out.ex hb11); have HT11 := Lib.hid (HT10.out.ex hb11); have XF11 := Lib.hid (XF10.out.ex hb11); have XM11 := Lib.hid (XM10.out.ex hb11); have XG11 := Lib.hid (XG10.out.ex hb11); have XS11 := Lib.hid (XS10.out.ex hb11); have HC11 := Lib.hid (HC10.out.ex hb11)
    have HL11 : Hid (SlI w11 (.slice A5 L.length c5) L) := Lib.hid (Ow.sl ho)
    clear hb11 HI ho HB10 HV10 HTB10 HT10 XF10 XM10 XG10 XS10 HC10
    go_wp2_with fail
    refine (HS.out _ HC11.out).mono ?_
    rintro e w12 ⟨A6, c6, rfl, ho, hb12⟩
    have HB12 := Lib.hid (below_next0 HB11.out hb12); have HV12 := Lib.hid (HV11.out.ex hb12); have HTB12 := Lib.hid (HTB11.out.ex hb12); have HT12 := Lib.hid (HT11.out.ex hb12); have XF12 := Lib.hid (XF11.out.ex hb12); have XM12 := Lib.hid (XM11.out.ex hb12); have XG12 := Lib.hid (XG11.out.ex hb12); have XS12 := Lib.hid (XS11.out.ex hb12); have HL12 := Lib.hid (HL11.out.ex hb12)
    have HN12 : Hid (SlI w12 (.slice A6 L.length c6) L) := Lib.hid (Ow.sl ho)
    clear hb12 HS ho HB11 HV11 HTB11 HT11 XF11 XM11 XG11 XS11 HC11 HL11
    go_wp2_with fail
    refine (HPI.out _ HT12.out).mono ?_
    rintro e w13 ⟨rfl, hb13⟩
    have HB13 := Lib.hid (below_next0 HB12.out hb13); have HV13 := Lib.hid (HV12.out.ex hb13); have HTB13 := Lib.hid (HTB12.out.ex hb13); have HT13 := Lib.hid (HT12.out.ex hb13); have XF13 := Lib.hid (XF12.out.ex hb13); have XM13 := Lib.hid (XM12.out.ex hb13); have XG13 := Lib.hid (XG12.out.ex hb13); have XS13 := Lib.hid (XS12.out.ex hb13); have HL13 := Lib.hid (HL12.out.ex hb13); have HN13 := Lib.hid (HN12.out.ex hb13)
    clear hb13 HPI HB12 HV12 HTB12 HT12 XF12 XM12 XG12 XS12 HL12 HN12
    have hba := below_alloc w13 (.cells #[.int .i64 sn, .int .i64 sd] 36)
    have HB13a := Lib.hid (below_next0 HB13.out hba); have HV13a := Lib.hid (HV13.out.ex hba); have HTB13a := Lib.hid (HTB13.out.ex hba); have HT13a := Lib.hid (HT13.out.ex hba); have XF13a := Lib.hid (XF13.out.ex hba); have XM13a := Lib.hid (XM13.out.ex hba); have XG13a := Lib.hid (XG13.out.ex hba); have XS13a := Lib.hid (XS13.out.ex hba); have HL13a := Lib.hid (HL13.out.ex hba); have HN13a := Lib.hid (HN13.out.ex hba)
    have XH13a := Lib.hid (Box2.new w13 (.int .i64 sn) (.int .i64 sd) 36)
    clear hba HB13 HV13 HTB13 HT13 XF13 XM13 XG13 XS13 HL13 HN13
    go_wp2_with fail
    refine (HPS.out _ HT13a.out).mono ?_
    rintro e w14 ⟨rfl, hb14⟩
    have HB14 := Lib.hid (below_next0 HB13a.out hb14); have HV14 := Lib.hid (HV13a.out.ex hb14); have HTB14 := Lib.hid (HTB13a.out.ex hb14); have HT14 := Lib.hid (HT13a.out.ex hb14); have XF14 := Lib.hid (XF13a.out.ex hb14); have XM14 := Lib.hid (XM13a.out.ex hb14); have XG14 := Lib.hid (XG13a.out.ex hb14); have XS14 := Lib.hid (XS13a.out.ex hb14); have HL14 := Lib.hid (HL13a.out.ex hb14); have HN14 := Lib.hid (HN13a.out.ex hb14); have XH14 := Lib.hid (XH13a.out.ex hb14)
    clear hb14 HPS HB13a HV13a HTB13a HT13a XF13a XM13a XG13a XS13a HL13a HN13a XH13a
    have hba := below_alloc w14 (.cells #[.int .i64 sn, .int .i64 sd] 36)
    have HB14a := Lib.hid (below_next0 HB14.out hba); have HV14a := Lib.hid (HV14.out.ex hba); have HTB14a := Lib.hid (HTB14.out.ex hba); have HT14a := Lib.hid (HT14.out.ex hba); have XF14a := Lib.hid (XF14.out.ex hba); have XM14a := Lib.hid (XM14.out.ex hba); have XG14a := Lib.hid (XG14.out.ex hba); have XS14a := Lib.hid (XS14.out.ex hba); have HL14a := Lib.hid (HL14.out.ex hba); have HN14a := Lib.hid (HN14.out.ex hba); have XH14a := Lib.hid (XH14.out.ex hba)
    have XP14a := Lib.hid (Box2.new w14 (.int .i64 sn) (.int .i64 sd) 36)
    clear hba HB14 HV14 HTB14 HT14 XF14 XM14 XG14 XS14 HL14 HN14 XH14
    go_wp2_with fail
    refine (drawTrip_any v0 x0 _ HV14a.out (by omega)).mono ?_
    rintro e w15 ⟨x, y, z, rfl, hb15⟩
    have HB15 := Lib.hid (below_next0 HB14a.out hb15); have HV15 := Lib.hid (HV14a.out.ex hb15); have HTB15 := Lib.hid (HTB14a.out.ex hb15); have HT15 := Lib.hid (HT14a.out.ex hb15); have XF15 := Lib.hid (XF14a.out.ex hb15); have XM15 := Lib.hid (XM14a.out.ex hb15); have XG15 := Lib.hid (XG14a.out.ex hb15); have XS15 := Lib.hid (XS14a.out.ex hb15); have HL15 := Lib.hid (HL14a.out.ex hb15); have HN15 := Lib.hid (HN14a.out.ex hb15); have XH15 := Lib.hid (XH14a.out.ex hb15); have XP15 := Lib.hid (XP14a.out.ex hb15)
    clear hb15 HB14a HV14a HTB14a HT14a XF14a XM14a XG14a XS14a HL14a HN14a XH14a XP14a
    clear HV15
    have hba := below_alloc w15 (.cells #[.int .i64 x, .int .i64 y, .int .i64 z] 25)
    have HB15a := Lib.hid (below_next0 HB15.out hba); have HTB15a := Lib.hid (HTB15.out.ex hba); have HT15a := Lib.hid (HT15.out.ex hba); have XF15a := Lib.hid (XF15.out.ex hba); have XM15a := Lib.hid (XM15.out.ex hba); have XG15a := Lib.hid (XG15.out.ex hba); have XS15a := Lib.hid (XS15.out.ex hba); have HL15a := Lib.hid (HL15.out.ex hba); have HN15a := Lib.hid (HN15.out.ex hba); have XH15a := Lib.hid (XH15.out.ex hba); have XP15a := Lib.hid (XP15.out.ex hba)
    have XT15a := Lib.hid (Box3t.new w15 (.int .i64 x) (.int .i64 y) (.int .i64 z) 25)
    clear hba HB15 HTB15 HT15 XF15 XM15 XG15 XS15 HL15 HN15 XH15 XP15
    have HDI := Lib.hid (fun W => implDelayOfTrip_any x y z W); have HDS := Lib.hid (fun W => specDelayOfTrip_any x y z W)
    have HTI := Lib.hid (fun W (a : Tab10 W) => implText_any x y z W a); have HTS := Lib.hid (fun W => specText_any x y z W)
    obtain ⟨dl, dc, hdd⟩ : ∃ dl dc : Int, (if Trip.ok ⟨x, y, z⟩ = true then Value.tuple #[.int .i64 (Trip.late ⟨x, y, z⟩), .int .i64 0] else .tuple #[.int .i64 0, .int .i64 1]) = .tuple #[.int .i64 dl, .int .i64 dc] := by split <;> exact ⟨_, _, rfl⟩
    rw [hdd] at HDI HDS
    generalize txtS ⟨x, y, z⟩ = tx at HTI HTS
    clear hdd
    have qXT0 := XT15a.out.c0
    have qXT1 := XT15a.out.c1
    have qXT2 := XT15a.out.c2
    go_wp2_with fail
    refine (HDI.out _).mono ?_
    rintro e w16 ⟨rfl, hb16⟩
    have HB16 := Lib.hid (below_next0 HB15a.out hb16); have HTB16 := Lib.hid (HTB15a.out.ex hb16); have HT16 := Lib.hid (HT15a.out.ex hb16); have XF16 := Lib.hid (XF15a.out.ex hb16); have XM16 := Lib.hid (XM15a.out.ex hb16); have XG16 := Lib.hid (XG15a.out.ex hb16); have XS16 := Lib.hid (XS15a.out.ex hb16); have HL16 := Lib.hid (HL15a.out.ex hb16); have HN16 := Lib.hid (HN15a.out.ex hb16); have XH16 := Lib.hid (XH15a.out.ex hb16); have XP16 := Lib.hid (XP15a.out.ex hb16); have XT16 := Lib.hid (XT15a.out.ex hb16)
    clear hb16 HDI qXT0 qXT1 qXT2 HB15a HTB15a HT15a XF15a XM15a XG15a XS15a HL15a HN15a XH15a XP15a XT15a
    have qXT0 := XT16.out.c0
    have qXT1 := XT16.out.c1
    have qXT2 := XT16.out.c2
    go_wp2_with fail
    refine (HDS.out _).mono ?_
    rintro e w17 ⟨rfl, hb17⟩
    have HB17 := Lib.hid (below_next0 HB16.out hb17); have HTB17 := Lib.hid (HTB16.out.ex hb17); have HT17 := Lib.hid (HT16.out.ex hb17); have XF17 := Lib.hid (XF16.out.ex hb17); have XM17 := Lib.hid (XM16.out.ex hb17); have XG17 := Lib.hid (XG16.out.ex hb17); have XS17 := Lib.hid (XS16.out.ex hb17); have HL17 := Lib.hid (HL16.out.ex hb17); have HN17 := Lib.hid (HN16.out.ex hb17); have XH17 := Lib.hid (XH16.out.ex hb17); have XP17 := Lib.hid (XP16.out.ex hb17); have XT17 := Lib.hid (XT16.out.ex hb17)
    clear hb17 HDS qXT0 qXT1 qXT2 HB16 HTB16 HT16 XF16 XM16 XG16 XS16 HL16 HN16 XH16 XP16 XT16
    have qXF0 := cell_plus XF17.out.c0
    have qXF1 := cell_plus XF17.out.c1
    have qXM0 := cell_plus XM17.out.c0
    have qXM1 := cell_plus XM17.out.c1
    have qXG0 := cell_plus XG17.out.c0
    have qXG1 := cell_plus XG17.out.c1
    have qXS0 := cell_plus XS17.out.c0
    have qXS1 := cell_plus XS17.out.c1
    have qXH0 := cell_plus XH17.out.c0
    have qXH1 := cell_plus XH17.out.c1
    have qXP0 := cell_plus XP17.out.c0
    have qXP1 := cell_plus XP17.out.c1
    have qXT0 := cell_plus XT17.out.c0
    have qXT1 := cell_plus XT17.out.c1
    have qXT2 := cell_plus XT17.out.c2
    have HE1 := Lib.hid (fun W (hW : Below w17.heap.size w17 W) => f6ints_any _ _ L W (HL17.out.ex hW) (HN17.out.ex hW))
    have HE2 := Lib.hid (fun W (hW : Below w17.heap.size w17 W) => HTI.out W (HTB17.out.ex hW))
    have HE3 := Lib.hid (fun W (hW : Below w17.heap.size w17 W) => HTS.out W)
    have HE4 := Lib.hid (fun W (hW : Below w17.heap.size w17 W) => validTrips_any _ ta W (HT17.out.ex hW))
    have HE5 := Lib.hid (fun W (hW : Below w17.heap.size w17 W) => specValidTrips_any _ ta W (HT17.out.ex hW))
    generalize tripsOk ta = oka at HE4 HE5
    clear HTI HTS
    go_wp2_with fail
    refine wp_region_plus (by kernel_rfl) (by kernel_rfl) ?_
    simp only [List.append]
    repeat (go_big_quiet_step (((first | (go_at_call 25; exact plus_below (HE1.out _ (below_plus _ _))) | (go_at_call 7; exact plus_below (HE2.out _ (below_plus _ _))) | (go_at_call 5; exact plus_below (HE3.out _ (below_plus _ _))) | (go_at_call 26; exact plus_below (HE4.out _ (below_plus _ _))) | (go_at_call 27; exact plus_below (HE5.out _ (below_plus _ _)))))))
    refine wpQuiet_nil ?_
    intro wq hwq
    replace hwq := below_of_plus hwq
    clear HE1 HE2 HE3 HE4 HE5 qXF0 qXF1 qXM0 qXM1 qXG0 qXG1 qXS0 qXS1 qXH0 qXH1 qXP0 qXP1 qXT0 qXT1 qXT2
    obtain ⟨w90, hw90⟩ : ∃ x : World, x = wq := ⟨wq, rfl⟩; subst hw90
    have HB90 := Lib.hid (below_next0 HB17.out hwq); have HT90 := Lib.hid (HT17.out.ex hwq); have XM90 := Lib.hid (XM17.out.ex hwq); have XS90 := Lib.hid (XS17.out.ex hwq); have HN90 := Lib.hid (HN17.out.ex hwq); have XP90 := Lib.hid (XP17.out.ex hwq)
    clear hwq HB17 HTB17 HT17 XF17 XM17 XG17 XS17 HL17 HN17 XH17 XP17 XT17
    go_upto_region 21 with fail
    go_cut [211] from 203 to 211 (fun q wx => q = .bool false ∧ Hid (Below w90.heap.size w90 wx))
    case first =>
      by_cases hlc : lc = 0
      · subst hlc
        obtain ⟨c1, c2, c3⟩ := HCT.out rfl
        have C3 := Lib.hid c3; have C1 := Lib.hid c1; clear c3 c1
        have HFS := Lib.hid (f6sum_any _ L _ HN90.out C3.out c2)
        rw [C1.out] at HFS
        go_wp2_with fail
        refine HFS.out.mono ?_
        rintro e wf ⟨rfl, rfl⟩
        go_wp2_with fail
        go_meet
        exact ⟨rfl, Lib.hid (Below.refl _ _)⟩
      · have hlc2 : (lc == 0) = false := by simpa using hlc
        clear hlc HCT
        go_wp2_with fail
        go_meet
        exact ⟨rfl, Lib.hid (Below.refl _ _)⟩
    case rest =>
      obtain ⟨rfl, HBC⟩ := hcut
      clear HCT
      obtain ⟨wy, hwy⟩ : ∃ x : World, x = wc := ⟨wc, rfl⟩; subst hwy
      have HBy := Lib.hid (below_next0 HB90.out HBC.out); have HTy := Lib.hid (HT90.out.ex HBC.out); have XMy := Lib.hid (XM90.out.ex HBC.out); have XSy := Lib.hid (XS90.out.ex HBC.out); have XPy := Lib.hid (XP90.out.ex HBC.out)
      clear HBC HB90 HT90 XM90 XS90 HN90 XP90
      go_upto_region 23 with fail
      go_cut [234] from 212 to 234 (fun q wx => q = .bool false ∧ Hid (Below wy.heap.size wy wx))
      case first =>
        have qXP0 := XPy.out.c0
        have qXP1 := XPy.out.c1
        have qXS0 := XSy.out.c0
        have qXS1 := XSy.out.c1
        have hsn := HSP.out
        have hd1 : decide (sn < 0) = false := decide_eq_false (by omega)
        by_cases hmc : mc = 0
        · subst hmc
          by_cases hgc : gc = 0
          · subst hgc
            obtain ⟨g1, g2, g3, g4, g5⟩ := HST.out rfl
            clear g5
            have hd2 : decide (gn < 0) = false := decide_eq_false (by omega); have hd3 : decide (gd < gn) = false := decide_eq_false (by omega)
            go_wp2_with fail
            go_meet
            exact ⟨by first | rfl | (simp only [hd1, hd2, hd3]; rfl), Lib.hid (Below.refl _ _)⟩
          · have hgc2 : (gc == 0) = false := by simpa using hgc
            clear hgc HST
            go_wp2_with fail
            go_meet
            exact ⟨by first | rfl | (simp only [hd1]; rfl), Lib.hid (Below.refl _ _)⟩
        · have hmc2 : (mc == 0) = false := by simpa using hmc
          clear hmc HMT HDM
          by_cases hgc : gc = 0
          · subst hgc
            obtain ⟨g1, g2, g3, g4, g5⟩ := HST.out rfl
            clear g5
            have hd2 : decide (gn < 0) = false := decide_eq_false (by omega); have hd3 : decide (gd < gn) = false := decide_eq_false (by omega)
            go_wp2_with fail
            go_meet
            exact ⟨by first | rfl | (simp only [hd1, hd2, hd3]; rfl), Lib.hid (Below.refl _ _)⟩
          · have hgc2 : (gc == 0) = false := by simpa using hgc
            clear hgc HST
            go_wp2_with fail
            go_meet
            exact ⟨by first | rfl | (simp only [hd1]; rfl), Lib.hid (Below.refl _ _)⟩
      case rest =>
        obtain ⟨rfl, HBC⟩ := hcut
        clear HST HSP
        obtain ⟨wz, hwz⟩ : ∃ x : World, x = wc := ⟨wc, rfl⟩; subst hwz
        have HBz := Lib.hid (below_next0 HBy.out HBC.out); have HTz := Lib.hid (HTy.out.ex HBC.out); have XMz := Lib.hid (XMy.out.ex HBC.out); have XPz := Lib.hid (XPy.out.ex HBC.out)
        clear HBC HBy HTy XMy XSy XPy
        by_cases hbad : bad = 0
        · subst hbad
          have hmc := HDM.out rfl
          subst hmc
          have HK := Lib.hid (HMT.out rfl)
          clear HMT
          obtain ⟨hdn, ⟨hp1, hp2⟩, u, d, hsh, k1, k2, k3, k4, k5⟩ := HDT.out rfl
          have HSH := Lib.hid (fun W (a : SlTrip W (.slice Aa ta.length ca) ta) => implShare_any _ ta dn W a hdn)
          rw [hsh] at HSH; dsimp only at HSH
          clear HDT HDM hsh hdn
          go_wp2_with fail
          refine (HSH.out _ HTz.out).mono ?_
          rintro e w96 ⟨rfl, hb96⟩
          have HB96 := Lib.hid (below_next0 HBz.out hb96); have HT96 := Lib.hid (HTz.out.ex hb96); have XM96 := Lib.hid (XMz.out.ex hb96); have XP96 := Lib.hid (XPz.out.ex hb96)
          clear hb96 HSH HBz HTz XMz XPz
          have k6 : 0 ≤ pq * d := Int.mul_nonneg (by omega) (by omega)
          have k7 : pq * d ≤ 1000 * 100 := Int.mul_le_mul hp2 k2 (by omega) (by omega)
          have k8 : ¬ 1000 * u < pq * d := by omega
          have hba := below_alloc w96 (.cells #[.int .i64 u, .int .i64 d] 36)
          have HB96a := Lib.hid (below_next0 HB96.out hba); have HT96a := Lib.hid (HT96.out.ex hba); have XM96a := Lib.hid (XM96.out.ex hba); have XP96a := Lib.hid (XP96.out.ex hba)
          have XQ96a := Lib.hid (Box2.new w96 (.int .i64 u) (.int .i64 d) 36)
          clear hba HB96 HT96 XM96 XP96
          have qXQ0 := XQ96a.out.c0
          have qXQ1 := XQ96a.out.c1
          go_wp2
          go_loopw [37, 38, 39] (fun lo hi i wr => ∃ k : Nat, k ≤ ta.length ∧ i = .int .i64 k ∧ lo = .int .i64 (lowK (lates ta) k) ∧ hi = .int .i64 (topK (lates ta) k) ∧ Hid (Below (w96.alloc (.cells #[.int .i64 u, .int .i64 d] 36)).heap.size (w96.alloc (.cells #[.int .i64 u, .int .i64 d] 36)) wr)) (fun _ _ i _ => ta.length - (intOf i).toNat)
          case atStart => exact ⟨0, Nat.zero_le _, rfl, rfl, rfl, Lib.hid (Below.refl _ _)⟩
          case round =>
            obtain ⟨k, hk, rfl, rfl, rfl, HBR⟩ := hrel
            obtain ⟨wq, hwq⟩ : ∃ x : World, x = wr := ⟨wr, rfl⟩; subst hwq
            have HLT := Lib.hid (lowtop (lates_bd HK.out.ok) k (by rw [lates_len]; exact hk))
            obtain ⟨⟨l1, l2⟩, ⟨t1, t2⟩, -, -⟩ := HLT.out
            by_cases hlt : k < ta.length
            · have hlti : (k : Int) < (ta.length : Int) := by omega
              have HTR := Lib.hid (HT96a.out.ex HBR.out)
              obtain ⟨Ax, cx, hvx, hl9, hcl⟩ := HTR.out.op
              injection hvx with hvx _ hvy; subst hvx hvy
              obtain ⟨b9, o9, rfl, hbs, hc0, hc1, hc2⟩ := hcl k hlt
              have hok := HK.out.ok k hlt
              have hbd := Trip.late_bd hok
              have HLS : Hid (lowK (lates ta) (k + 1) = min (lowK (lates ta) k) ta[k].late) := Lib.hid (by rw [lowK_succ (by rw [lates_len]; exact hlt), lates_get hlt])
              have HTS2 : Hid (topK (lates ta) (k + 1) = max (topK (lates ta) k) ta[k].late) := Lib.hid (by rw [topK_succ (by rw [lates_len]; exact hlt), lates_get hlt])
              have HDO := Lib.hid (fun W => specDelayOfTrip_any ta[k].to ta[k].due ta[k].came W)
              rw [if_pos (show Trip.ok ⟨ta[k].to, ta[k].due, ta[k].came⟩ = true from hok)] at HDO
              have e9 : Trip.late ⟨ta[k].to, ta[k].due, ta[k].came⟩ = ta[k].late := rfl
              rw [e9] at HDO
              have hl100 := HK.out.len
              clear hok e9 hcl
              generalize ta[k].late = d at HLS HTS2 HDO hbd
              generalize lowK (lates ta) k = lo at HLS l1 l2 ⊢
              generalize topK (lates ta) k = hi at HTS2 t1 t2 ⊢
              generalize ta[k] = tq at hc0 hc1 hc2 HDO
              clear HLT
              go_wp2_with fail
              refine (HDO.out _).mono ?_
              rintro e ws ⟨rfl, hb1⟩
              have HBS := Lib.hid (below_next0 HBR.out hb1)
              clear hb1 hc0 hc1 hc2 HTR HBR HDO
              obtain ⟨d1, d2⟩ := hbd
              by_cases m1 : lo ≤ d
              · have n1 : min lo d = lo := by omega
                rw [n1] at HLS
                by_cases m2 : d ≤ hi
                · have n2 : max hi d = hi := by omega
                  rw [n2] at HTS2
                  clear n1 n2
                  go_wp2
                  go_roundw
                  case rel => exact ⟨k + 1, by omega, by go_num, by rw [HLS.out] <;> (congr 1; omega), by rw [HTS2.out] <;> (congr 1; omega), HBS⟩
                  case measure => simp [intOf]; omega
                · have n2 : max hi d = d := by omega
                  have m2b : hi < d := by omega
                  have m2c : hi ≤ d := by omega
                  rw [n2] at HTS2
                  clear n1 n2
                  go_wp2
                  go_roundw
                  case rel => exact ⟨k + 1, by omega, by go_num, by rw [HLS.out] <;> (congr 1; omega), by rw [HTS2.out] <;> (congr 1; omega), HBS⟩
                  case measure => simp [intOf]; omega
              · have n1 : min lo d = d := by omega
                have m1b : d < lo := by omega
                have m1c : d ≤ lo := by omega
                rw [n1] at HLS
                by_cases m2 : d ≤ hi
                · have n2 : max hi d = hi := by omega
                  rw [n2] at HTS2
                  clear n1 n2
                  go_wp2
                  go_roundw
                  case rel => exact ⟨k + 1, by omega, by go_num, by rw [HLS.out] <;> (congr 1; omega), by rw [HTS2.out] <;> (congr 1; omega), HBS⟩
                  case measure => simp [intOf]; omega
                · have n2 : max hi d = d := by omega
                  have m2b : hi < d := by omega
                  have m2c : hi ≤ d := by omega
                  rw [n2] at HTS2
                  clear n1 n2
                  go_wp2
                  go_roundw
                  case rel => exact ⟨k + 1, by omega, by go_num, by rw [HLS.out] <;> (congr 1; omega), by rw [HTS2.out] <;> (congr 1; omega), HBS⟩
                  case measure => simp [intOf]; omega
            · obtain rfl : k = ta.length := by omega
              have HBF := Lib.hid (below_next0 HB96a.out HBR.out)
              have HXM := Lib.hid (XM96a.out.ex HBR.out); have HXP := Lib.hid (XP96a.out.ex HBR.out)
              obtain ⟨hm1, hm2, hm3, hm4⟩ := HK.out.bd
              have hlow := HK.out.low; have htop := HK.out.top; have HSA := Lib.hid HK.out.same
              generalize lowK (lates ta) ta.length = lo at hlow HSA l1 l2 ⊢
              generalize topK (lates ta) ta.length = hi at htop HSA t1 t2 ⊢
              have p1 : 0 ≤ lo * md := Int.mul_nonneg l1 (by omega)
              have p2 : 0 ≤ hi * md := Int.mul_nonneg t1 (by omega)
              have p3 : hi * md ≤ 10000 * 100 := Int.mul_le_mul t2 hm4 (by omega) (by omega)
              have p4 : lo * md ≤ 10000 * 100 := Int.mul_le_mul l2 hm4 (by omega) (by omega)
              have qm0 := HXM.out.c0; have qm1 := HXM.out.c1; have qp0 := HXP.out.c0
              have hge : (decide (mn ≥ lo * md)) = true := decide_eq_true hlow
              clear HLT HK
              by_cases hz : sn = 0
              · have hsame := HSA.out.2 hz
                subst hz hsame
                go_wp2
                go_ret
                exact ⟨rfl, HBF.out⟩
              · have hz1 : (sn == 0) = false := by simpa using hz
                have hd1 : (lo == hi) = false := by simp; exact fun e => hz (HSA.out.1 e)
                clear hz HSA
                go_wp2
                go_ret
                exact ⟨rfl, HBF.out⟩
        · have hbad2 : (bad == 0) = false := by simpa using hbad
          clear hbad HDT HDM
          by_cases hmc : mc = 0
          · subst hmc
            have HK := Lib.hid (HMT.out rfl)
            clear HMT
            go_wp2
            go_loopw [37, 38, 39] (fun lo hi i wr => ∃ k : Nat, k ≤ ta.length ∧ i = .int .i64 k ∧ lo = .int .i64 (lowK (lates ta) k) ∧ hi = .int .i64 (topK (lates ta) k) ∧ Hid (Below wz.heap.size wz wr)) (fun _ _ i _ => ta.length - (intOf i).toNat)
            case atStart => exact ⟨0, Nat.zero_le _, rfl, rfl, rfl, Lib.hid (Below.refl _ _)⟩
            case round =>
              obtain ⟨k, hk, rfl, rfl, rfl, HBR⟩ := hrel
              obtain ⟨wq, hwq⟩ : ∃ x : World, x = wr := ⟨wr, rfl⟩; subst hwq
              have HLT := Lib.hid (lowtop (lates_bd HK.out.ok) k (by rw [lates_len]; exact hk))
              obtain ⟨⟨l1, l2⟩, ⟨t1, t2⟩, -, -⟩ := HLT.out
              by_cases hlt : k < ta.length
              · have hlti : (k : Int) < (ta.length : Int) := by omega
                have HTR := Lib.hid (HTz.out.ex HBR.out)
                obtain ⟨Ax, cx, hvx, hl9, hcl⟩ := HTR.out.op
                injection hvx with hvx _ hvy; subst hvx hvy
                obtain ⟨b9, o9, rfl, hbs, hc0, hc1, hc2⟩ := hcl k hlt
                have hok := HK.out.ok k hlt
                have hbd := Trip.late_bd hok
                have HLS : Hid (lowK (lates ta) (k + 1) = min (lowK (lates ta) k) ta[k].late) := Lib.hid (by rw [lowK_succ (by rw [lates_len]; exact hlt), lates_get hlt])
                have HTS2 : Hid (topK (lates ta) (k + 1) = max (topK (lates ta) k) ta[k].late) := Lib.hid (by rw [topK_succ (by rw [lates_len]; exact hlt), lates_get hlt])
                have HDO := Lib.hid (fun W => specDelayOfTrip_any ta[k].to ta[k].due ta[k].came W)
                rw [if_pos (show Trip.ok ⟨ta[k].to, ta[k].due, ta[k].came⟩ = true from hok)] at HDO
                have e9 : Trip.late ⟨ta[k].to, ta[k].due, ta[k].came⟩ = ta[k].late := rfl
                rw [e9] at HDO
                have hl100 := HK.out.len
                clear hok e9 hcl
                generalize ta[k].late = d at HLS HTS2 HDO hbd
                generalize lowK (lates ta) k = lo at HLS l1 l2 ⊢
                generalize topK (lates ta) k = hi at HTS2 t1 t2 ⊢
                generalize ta[k] = tq at hc0 hc1 hc2 HDO
                clear HLT
                go_wp2_with fail
                refine (HDO.out _).mono ?_
                rintro e ws ⟨rfl, hb1⟩
                have HBS := Lib.hid (below_next0 HBR.out hb1)
                clear hb1 hc0 hc1 hc2 HTR HBR HDO
                obtain ⟨d1, d2⟩ := hbd
                by_cases m1 : lo ≤ d
                · have n1 : min lo d = lo := by omega
                  rw [n1] at HLS
                  by_cases m2 : d ≤ hi
                  · have n2 : max hi d = hi := by omega
                    rw [n2] at HTS2
                    clear n1 n2
                    go_wp2
                    go_roundw
                    case rel => exact ⟨k + 1, by omega, by go_num, by rw [HLS.out] <;> (congr 1; omega), by rw [HTS2.out] <;> (congr 1; omega), HBS⟩
                    case measure => simp [intOf]; omega
                  · have n2 : max hi d = d := by omega
                    have m2b : hi < d := by omega
                    have m2c : hi ≤ d := by omega
                    rw [n2] at HTS2
                    clear n1 n2
                    go_wp2
                    go_roundw
                    case rel => exact ⟨k + 1, by omega, by go_num, by rw [HLS.out] <;> (congr 1; omega), by rw [HTS2.out] <;> (congr 1; omega), HBS⟩
                    case measure => simp [intOf]; omega
                · have n1 : min lo d = d := by omega
                  have m1b : d < lo := by omega
                  have m1c : d ≤ lo := by omega
                  rw [n1] at HLS
                  by_cases m2 : d ≤ hi
                  · have n2 : max hi d = hi := by omega
                    rw [n2] at HTS2
                    clear n1 n2
                    go_wp2
                    go_roundw
                    case rel => exact ⟨k + 1, by omega, by go_num, by rw [HLS.out] <;> (congr 1; omega), by rw [HTS2.out] <;> (congr 1; omega), HBS⟩
                    case measure => simp [intOf]; omega
                  · have n2 : max hi d = d := by omega
                    have m2b : hi < d := by omega
                    have m2c : hi ≤ d := by omega
                    rw [n2] at HTS2
                    clear n1 n2
                    go_wp2
                    go_roundw
                    case rel => exact ⟨k + 1, by omega, by go_num, by rw [HLS.out] <;> (congr 1; omega), by rw [HTS2.out] <;> (congr 1; omega), HBS⟩
                    case measure => simp [intOf]; omega
              · obtain rfl : k = ta.length := by omega
                have HBF := Lib.hid (below_next0 HBz.out HBR.out)
                have HXM := Lib.hid (XMz.out.ex HBR.out); have HXP := Lib.hid (XPz.out.ex HBR.out)
                obtain ⟨hm1, hm2, hm3, hm4⟩ := HK.out.bd
                have hlow := HK.out.low; have htop := HK.out.top; have HSA := Lib.hid HK.out.same
                generalize lowK (lates ta) ta.length = lo at hlow HSA l1 l2 ⊢
                generalize topK (lates ta) ta.length = hi at htop HSA t1 t2 ⊢
                have p1 : 0 ≤ lo * md := Int.mul_nonneg l1 (by omega)
                have p2 : 0 ≤ hi * md := Int.mul_nonneg t1 (by omega)
                have p3 : hi * md ≤ 10000 * 100 := Int.mul_le_mul t2 hm4 (by omega) (by omega)
                have p4 : lo * md ≤ 10000 * 100 := Int.mul_le_mul l2 hm4 (by omega) (by omega)
                have qm0 := HXM.out.c0; have qm1 := HXM.out.c1; have qp0 := HXP.out.c0
                have hge : (decide (mn ≥ lo * md)) = true := decide_eq_true hlow
                clear HLT HK
                by_cases hz : sn = 0
                · have hsame := HSA.out.2 hz
                  subst hz hsame
                  go_wp2
                  go_ret
                  exact ⟨rfl, HBF.out⟩
                · have hz1 : (sn == 0) = false := by simpa using hz
                  have hd1 : (lo == hi) = false := by simp; exact fun e => hz (HSA.out.1 e)
                  clear hz HSA
                  go_wp2
                  go_ret
                  exact ⟨rfl, HBF.out⟩
          · have hmc2 : (mc != 0) = true := by simpa using hmc
            clear hmc HMT
            go_wp2
            go_ret
            exact ⟨rfl, HBz.out⟩

def laidT {H : Type} : List (String × DataW H) := [("math/bits.deBruijn32tab", Rows.laid_math_bits_deBruijn32tab), ("math/bits.deBruijn64tab", Rows.laid_math_bits_deBruijn64tab), ("internal/strconv.uint64pow10", Rows.laid_internal_strconv_uint64pow10)]
theorem door_met (os : Os) (args : Array Value) : laidMetH Tryd.prog laidT ((World.doorLaid Tryd.prog 400 os).forCall (fun _ _ => 0) ⟨#[], args, []⟩).memory :=
  laidMetH_of_parts3 (fuel := 8) (laidMet_of_run' 8 (by kernel_rfl) (by kernel_rfl)) (by kernel_rfl) (by kernel_rfl)
theorem tab_of_laid {W : World} (h : laidMetH Tryd.prog laidT W) : Tab10 W := by
  rw [MakeChecks.laidMetH_plain _ _ _ (by kernel_rfl)] at h
  have h2 : laidMet Tryd.prog [("math/bits.deBruijn32tab", Rows.laid_math_bits_deBruijn32tab), ("math/bits.deBruijn64tab", Rows.laid_math_bits_deBruijn64tab), ("internal/strconv.uint64pow10", Rows.laid_internal_strconv_uint64pow10)] W := h
  have h1 : laidMet Tryd.prog [("internal/strconv.uint64pow10", Lib.tabData .u64 Lib.pow10Tab)] W := laidMet.tail (laidMet.tail h2)
  exact Lib.tabBelow_of_tabIs (Lib.tabIs_of_head (g := 0) (t := 107) (by kernel_rfl) (by kernel_rfl) Tryd.underlying107 Tryd.underlying74 (by kernel_rfl) (by kernel_rfl) h1)

set_option maxRecDepth 100000 in
theorem delays_lifted (os : Os) (started : os.Started) (H : Type) (enc : TypeId × Value → H) :
    ReturnsInHanded {} Tryd.checked os 4 .any (fun w args => (Rows.fnDelaysSpec.pre enc Tryd.prog Tryd.f4 [] false w args ∧ laidMetH Tryd.prog laidT w) ∧ sizedMet enc Tryd.prog Tryd.f4 (OpenSpec.ofChange Rows.fnDelaysSpec) false w args)
      (Rows.fnDelaysSpec.post enc Tryd.prog Tryd.f4 false true false false) := by
  refine returnsInHanded_of_change_and (C := Tryd.checked) (X := fun w _ => laidMetH Tryd.prog laidT w) (fun _ _ _ hh h => h.of_heap hh) own started (by kernel_rfl) Tryd.func4
    (ChangeSpec.witness_shaped (enc := enc) (C := Tryd.checked) (os := os) (X := fun w _ => laidMetH Tryd.prog laidT w) false (World.doorLaid Tryd.prog 400 os) #[.slice none 0 0] 8 rfl (World.shaped_of_RefB (by kernel_rfl) (by kernel_rfl)) (by kernel_rfl) (by kernel_rfl) (by kernel_rfl) (door_met os _)) ?_
  intro W base args ds gs before hval0 hW _ hsz hL _
  have hval : ∀ (j : Nat) t v, (Tryd.f4).params[j]? = some t → args[j]? = some v → Value.okWide Tryd.prog W .any base t v := hval0
  have hW' := hW
  obtain ⟨p, q, hA0, hV, rfl, hfz, hnd⟩ := hW
  have hA : DataW.TrodAll enc Tryd.prog W 0 (fun _ => true) true (Tryd.f4).params.toList args.toList ds p := hA0
  have hlt : ∀ x ∈ p, x.block < W.heap.size := fun x hx => by
    have := hW'.lt x (by simp [hx])
    simpa using this
  obtain ⟨rfl, rfl⟩ := trodVars_none hV
  have hA2 := hA
  rw [Tryd.params4] at hA hval
  obtain ⟨v0, vs0, d0, ds0, p0, q0, hargs, rfl, rfl, h0, r0⟩ := trodAll_cons hA
  obtain ⟨rfl, rfl, rfl⟩ := trodAll_nil r0
  obtain rfl : args = #[v0] := by cases args; simp_all
  obtain ⟨x0, hx0⟩ := argB Tryd.underlying28 Tryd.underlying5 (by kernel_rfl) (by kernel_rfl) (hval 0 _ _ rfl rfl) h0 (weight_arg hsz (j := 0) rfl rfl)
  refine (lawDelays_any _ x0 W hx0 (tab_of_laid hL)).mono fun e W' ⟨he, hb⟩ => ?_
  subst he
  refine ⟨_, rfl, _, [], _, [], p0 ++ [], [], hW', ?_, ?_, rfl, hb.frame _, fun h => by cases h⟩
  · exact trodAll_cons_mk (shut_bool Tryd.underlying4 true) trodAll_mk0
  · exact trodAll_below laidOut hb _ _ _ _ (by rw [Tryd.params4]; intro t ht; simp only [List.mem_cons, List.not_mem_nil, or_false] at ht; subst ht; exact ⟨by kernel_rfl, of_decide_eq_true (by kernel_rfl)⟩) hA2 hlt

theorem delays_row : Rows.FnDelaysSaid :=
  OpenClaim.holds_of_wide 4 Tryd.f4 rfl rfl rfl rfl rfl rfl rfl ⟨rfl, rfl, rfl, rfl, rfl⟩ rfl rfl rfl rfl rfl (by kernel_rfl) Tryd.func4 (by kernel_rfl)
    (of_decide_eq_true (by kernel_rfl)) (by unfold Func.isWrapper; first | (rw [if_pos (by decide +kernel)]; kernel_rfl) | (rw [if_neg (by decide +kernel)]; exact ⟨rfl, rfl⟩))
    (fun os started H enc _ => delays_lifted os started H enc)
theorem delays_holds : Rows.FnDelaysCardSaid :=
  Claim7.holds_tied_plain_at .later [] [.data, .data, .data] true (true, "8dd30daec8ddd28bb3cee6adb8d8ed64ac9fd3c9382fbb0fbda2d60fbe9aa90a") false
    delays_row (fun _ h => by cases h) (by kernel_rfl) (fun _ h => by cases h) fnDelays_row_tie rfl ⟨rfl, rfl⟩ (by kernel_rfl) rfl
    (fun f fn hf hfn => by
      obtain rfl : f = 4 := Option.some.inj ((show Tryd.prog.funcNamed "loop.example/g01046/laws.FnDelays" = some 4 by kernel_rfl).symm.trans hf) |>.symm
      obtain rfl : fn = Tryd.f4 := (Option.some.inj (Tryd.func4.symm.trans hfn)).symm
      exact ⟨by kernel_rfl, fun j t ht => by
        rw [Tryd.params4] at ht
        have hm : t ∈ [28] := by simpa using Array.mem_of_getElem? ht
        have hall : ([28].all fun u => !Tryd.prog.wantsStandIn u) = true := by kernel_rfl
        exact (show Tryd.prog.wantsStandIn t = false by simpa using List.all_eq_true.1 hall t hm)⟩)
    (by kernel_rfl)
#print axioms delays_holds
end Go.Proofs.YthpijecjifmnbaaDoor
