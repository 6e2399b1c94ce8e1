/-
BestDay of the program: the cheapest sets of the hours. Condition: the slices read as lists.
-/
import Derived.Test.YtjleabgoajoegaaBestB
import Derived.Test.YtjleabgoajoegaaBestC
import Derived.Deep.CutRange
import Derived.BigQuiet
import Derived.BigRegion
namespace Go.Proofs.Ytjleabgoajoegaa
open Go.RowKit
set_option linter.unusedVariables false
set_option linter.unusedSimpArgs false

theorem bestC_any (need : Int) (g c : Nat) (A : Option Addr) (ts : List Blower) (W : World) (hc : W.cell? ⟨g, 0, none⟩ = some (.slice A ts.length c)) (hv : SlBlower W (.slice A ts.length c) ts) (hok : blowersOk ts = true) :
    Calls Try.prog 75 #[.int .i64 need, .pointer (some ⟨g, 0, none⟩)] W fun e w' => e = .returned (.bool (decide (powT ts (lastB ts.length) < need))) ∧ Below W.heap.size W w' := by
  have hl4 := (blowersOk_at hok).1
  have hlb := lastB_le hl4
  have HV := Lib.hid hv; have HO := Lib.hid hok
  have hcp := cell_plus hc
  have HPC := Lib.hid (fun W' (hW : Below W.heap.size W W') => powerOf_any _ ts (lastB ts.length) W' (HV.out.ex hW) HO.out hlb)
  clear hv hok
  go_enter Try.func75, Try.ntmps75
  go_wp2
  refine wp_region_plus (by kernel_rfl) (by kernel_rfl) ?_
  repeat (go_big_quiet_step (((first | (go_at_call 67; exact plus_same (lastSet_any _ _ _ _ hl4)) | (go_at_call 64; exact plus_below (HPC.out _ (below_plus _ _)))))))
  refine wpQuiet_nil ?_
  intro wq hwq
  replace hwq := below_of_plus hwq
  go_wp2
  go_ret
  exact ⟨rfl, hwq⟩
theorem makeT (n : Nat) (hn : n ≤ 24) : ∃ M : Array Value, M.toList = List.replicate (n + 1) (Value.slice none 0 0) ∧ ∀ W : World, (Instr.makeSlice 82 (.int .i64 ((n : Int) + 1)) (.int .i64 ((n : Int) + 1))).run Try.prog W = .ok (.slice (some ⟨W.heap.size, 0, none⟩) (n + 1) (n + 1)) (W.alloc (.cells M 22)) := by
  obtain ⟨i0, hi, hz0, hz1, hz2⟩ := info_parts infoIIb
  refine ⟨madeCells (Value.slice none 0 0).cells ((((n + 1 : Nat) : Int)).toNat * i0.size), ?_, fun W => ?_⟩
  · rw [hz1, Int.toNat_natCast, Nat.mul_one]
    exact toList_madeCells_one (Value.slice none 0 0) (n + 1)
  · have h := run_makeSlice (P := Try.prog) W 82 22 i0 (.slice none 0 0) Try.underlying82 hi hz0 .i64 .i64 ((n + 1 : Nat) : Int) ((n + 1 : Nat) : Int) (by omega) (by omega) (by rw [hz1]; first | omega | (simp; omega) | (unfold maxLen; omega)) (by rw [hz2]; first | omega | (simp; omega)) (by first | omega | (simp; omega) | (unfold maxLen; omega))
    rw [show ((n : Int) + 1) = ((n + 1 : Nat) : Int) by omega]
    simpa using h
theorem ownMade {M : Array Value} {m : Nat} (hM : M.toList = List.replicate m (Value.slice none 0 0)) (hm : m ≤ 25) (W : World) (lo : Nat) (hlo : lo ≤ W.heap.size) : Ow (W.alloc (.cells M 22)) lo 22 1 (.slice (some ⟨W.heap.size, 0, none⟩) m m) m (List.replicate m (.slice none 0 0)) := by
  have hs : M.size = m * 1 := by rw [← Array.length_toList, hM, List.length_replicate, Nat.mul_one]
  have h := World.ownsRow_lit (e := 22) W M m hlo (by unfold maxLen; omega) hs
  rw [hM] at h
  exact ⟨h, by omega⟩

theorem ownMade2 {M : Array Value} {m : Nat} (hM : M.toList = List.replicate m (Value.slice none 0 0)) (hm : m ≤ 25) (W : World) (o : Obj) : Ow ((W.alloc o).alloc (.cells M 22)) W.heap.size 22 1 (.slice (some ⟨W.heap.size + 1, 0, none⟩) m m) m (List.replicate m (.slice none 0 0)) := by
  have h := ownMade hM hm (W.alloc o) W.heap.size (by simp)
  rwa [show (W.alloc o).heap.size = W.heap.size + 1 by simp] at h

set_option maxRecDepth 100000 in
set_option maxHeartbeats 40000000 in
theorem implBest_any (v u : Value) (ts : List Blower) (ns : List Int) (w : World) (hv : SlBlower w v ts) (hu : SlI w u ns) :
    Calls Try.prog 39 #[v, u] w fun e w' => ∃ A c, e = .returned (.tuple #[.slice A (bdR ts ns).1.length c, .int .i64 (bdR ts ns).2.1, .int .i64 (bdR ts ns).2.2]) ∧ OwI w' w.heap.size (.slice A (bdR ts ns).1.length c) (bdR ts ns).1 ∧ Below w.heap.size w w' := by
  have HV := Lib.hid hv; have HU := Lib.hid hu
  obtain ⟨A, c, rfl, hla, _⟩ := hv.op
  obtain ⟨B, d, rfl, hlb, _⟩ := hu.op
  have HNIL := Lib.hid (fun w' : World => owI_nilB w' w.heap.size)
  clear hv hu
  go_enter Try.func39, Try.ntmps39
  go_wp2_with fail
  refine (validBlowers_any _ ts _ (HV.out.ex (below_alloc _ _))).mono ?_
  rintro e w1 ⟨rfl, hb1⟩
  have hbox1 := box1 hb1
  have HB1 := Lib.hid (below_next0 (below_alloc w (.cells #[.slice A ts.length c] 29)) hb1)
  have hbl1 : w.heap.size < w1.heap.size := by have := hb1.size; simp at this; omega
  clear hb1
  cases hok : blowersOk ts with
  | false =>
    have E : Hid (bdR ts ns = ([], 0, 1)) := Lib.hid (by unfold bdR; rw [hok]; rfl)
    go_wp2
    go_ret3
    exact ⟨none, 0, by rw [E.out]; rfl, by rw [E.out]; exact HNIL.out _, HB1.out⟩
  | true =>
    go_wp2_with fail
    refine (validNeeds_any _ ns _ (HU.out.ex HB1.out)).mono ?_
    rintro e w2 ⟨rfl, hb2⟩
    have HB2 := Lib.hid (below_next0 HB1.out hb2)
    have hbox2 := (hb2.cell (p := ⟨w.heap.size, 0, none⟩) hbl1).trans hbox1
    have hbl2 : w.heap.size < w2.heap.size := Nat.lt_of_lt_of_le hbl1 hb2.size
    clear hb2 hbox1 hbl1 HB1
    cases hnk : needsOk ns with
    | false =>
      have E : Hid (bdR ts ns = ([], 0, 1)) := Lib.hid (by unfold bdR; rw [hok, hnk]; rfl)
      go_wp2
      go_ret3
      exact ⟨none, 0, by rw [E.out]; rfl, by rw [E.out]; exact HNIL.out _, HB2.out⟩
    | true =>
      have E : Hid (bdR ts ns = if restF ts (2 ^ ts.length) ns 0 < 0 then ([], 0, 3) else (outF ts (2 ^ ts.length) ns ns.length, restF ts (2 ^ ts.length) ns 0, 0)) := Lib.hid (by unfold bdR; rw [hok, hnk]; rfl)
      have HO := Lib.hid hok
      have hl4 := (blowersOk_at hok).1
      have HK := Lib.hid (needsOk_at hnk)
      have hn24 := HK.out.1
      obtain ⟨hp1, hp2, hp3, hp4⟩ := two_pow hl4
      have HSB := Lib.hid (fun b s => stepT_bd hok b s)
      have hlast := powT_last hok
      have HBIG : Hid (anyN (fun k => decide (powT ts (lastB ts.length) < ns.getD k 0)) ns.length = ns.any (fun n => decide (powT ts (lastB ts.length) < n))) := Lib.hid (anyN_list ns _ _ (fun k hk => by simp [List.getD_eq_getElem?_getD, hk]))
      have HLS : Hid (∀ W, Calls Try.prog 67 #[.slice A ts.length c] W fun e w' => e = .returned (.int .i64 (((2 ^ ts.length : Nat) : Int) - 1)) ∧ W = w') := Lib.hid fun W => by rw [← hp4]; exact lastSet_any A ts.length c W hl4
      have HV2 := Lib.hid (HV.out.ex HB2.out); have HU2 := Lib.hid (HU.out.ex HB2.out)
      go_wp2_with fail
      refine (conI_any 75 _ (enters_of Try.func75 (by kernel_rfl) rfl) (fun k => decide (powT ts (lastB ts.length) < ns.getD k 0)) _ ns.length (ns.map (Value.int .i64)) _ HU2.out ?_).mono ?_
      · intro k hk W hW
        have hk' : k < ns.length := by simpa using hk
        have hx : (ns.map (Value.int .i64))[k] = Value.int .i64 (ns.getD k 0) := by simp [List.getD_eq_getElem?_getD, hk']
        rw [hx]
        exact bestC_any (ns.getD k 0) w.heap.size c A ts W ((hW.cell (p := ⟨w.heap.size, 0, none⟩) hbl2).trans hbox2) (HV2.out.ex hW) HO.out
      rintro e w3 ⟨rfl, hb3⟩
      have HB3 := Lib.hid (below_next0 HB2.out hb3)
      have hbox3 := (hb3.cell (p := ⟨w.heap.size, 0, none⟩) hbl2).trans hbox2
      have hbl3 : w.heap.size < w3.heap.size := Nat.lt_of_lt_of_le hbl2 hb3.size
      have HV3 := Lib.hid (HV2.out.ex hb3); have HU3 := Lib.hid (HU2.out.ex hb3)
      clear hb3 hbox2 hbl2 HB2 HV2 HU2 HV HU
      rw [HBIG.out]
      have hN1 : ((2 ^ ts.length - 1 : Nat) : Int) = lastB ts.length := by rw [hp4]; omega
      cases hbig : ns.any (fun n => decide (powT ts (lastB ts.length) < n)) with
      | true =>
        have E2 : Hid (bdR ts ns = ([], 0, 3)) := Lib.hid (by
          rw [E.out, restF_none (fun i _ => by rw [hN1]; exact hlast i) ns (by obtain ⟨n, hn, h9⟩ := List.any_eq_true.1 hbig; exact ⟨n, hn, by rw [hN1]; exact of_decide_eq_true h9⟩) 0]
          rfl)
        clear hbig hlast hN1
        go_wp2
        go_ret3
        exact ⟨none, 0, by rw [E2.out]; rfl, by rw [E2.out]; exact HNIL.out _, HB3.out⟩
      | false =>
        have HRP : Hid (∀ k b, 0 ≤ restF ts (2 ^ ts.length) (ns.drop k) b) := Lib.hid (fun k b => restF_all (fun x y => (HSB.out x y).1) (by omega) (ns.drop k) (fun n hn => by
          rw [hN1]
          have h9 := List.any_eq_false.1 hbig n (List.mem_of_mem_drop hn)
          have h8 : ¬ powT ts (lastB ts.length) < n := by simpa using h9
          omega) b)
        have E2 : Hid (bdR ts ns = (outF ts (2 ^ ts.length) ns ns.length, restF ts (2 ^ ts.length) ns 0, 0)) := Lib.hid (by
          have h9 := HRP.out 0 0
          rw [List.drop_zero] at h9
          rw [E.out, if_neg (by omega)])
        clear hbig hlast hN1 HBIG E hp1 hp4
        generalize (2 ^ ts.length : Nat) = N at HLS hp2 hp3 E2 HRP
        have HRB := Lib.hid (fun needs b => restF_bd (fun x y => HSB.out x y) N needs b)
        obtain ⟨B', d', hv9, _, hnc⟩ := HU3.out.op
        injection hv9 with hv9 hvn hv8
        clear hvn
        subst hv9 hv8
        have HNC := Lib.hid hnc
        clear hnc HU3
        obtain ⟨M, hM, hmk⟩ := makeT ns.length hn24
        have HM := Lib.hid hM
        clear hM
        go_upto_region 6 with (first | (go_at_call 67; refine (HLS.out _).mono ?_; rintro e w4 ⟨rfl, rfl⟩) | fail)
        go_cut [9, 10] from 38 to 43 (fun t9 t10 wx => ∃ gC gN : Nat, t9 = .slice (some ⟨gC, 0, none⟩) (ns.length + 1) (ns.length + 1) ∧ t10 = .slice (some ⟨gN, 0, none⟩) (ns.length + 1) (ns.length + 1) ∧ gC ≠ gN ∧
          Hid (Ow wx w3.heap.size 22 1 (.slice (some ⟨gC, 0, none⟩) (ns.length + 1) (ns.length + 1)) (ns.length + 1) (List.replicate (ns.length + 1) (.slice none 0 0))) ∧
          Hid (Ow wx w3.heap.size 22 1 (.slice (some ⟨gN, 0, none⟩) (ns.length + 1) (ns.length + 1)) (ns.length + 1) (List.replicate (ns.length + 1) (.slice none 0 0))) ∧ Hid (Below w3.heap.size w3 wx))
        case first =>
          go_region
          all_goals
            go_wp2_with fail
            go_meet
            refine ⟨_, _, rfl, rfl, by first | omega | (simp; omega) | simp, Lib.hid ?_, Lib.hid ?_, Lib.hid ?_⟩
            all_goals first
              | (refine Ow.drewN ?_ 1; first | exact ownMade2 HM.out (by omega) w3 _ | exact Ow.ex (ownMade HM.out (by omega) w3 w3.heap.size (Nat.le_refl _)) (below_alloc _ _))
              | (repeat' (first | exact Below.refl _ _ | apply Below.drew | refine Below.alloc ?_ (by first | exact Nat.le_refl _ | (simp; done) | (simp; omega)) _))
        case rest =>
          obtain ⟨gC, gN, rfl, rfl, hne, HTC, HTN, HBX⟩ := hcut
          clear hmk HM
          go_upto_region 7 with fail
          refine wp_gen ?_
          intro wx hwx
          subst hwx
          have hni : (ns.length : Int) < ((ns.length + 1 : Nat) : Int) := by omega
          go_wp2_with (first | (at_make; refine wpList_make1 wx rfl (.tmp 46) (.tmp 46) _ rfl wx.heap.size 2 (.int .i64 0) 8 Try.underlying22 infoI64 rfl .i64 .i64 N rfl rfl (by omega) (by omega) (Nat.le_refl _) ?_; intro w5 hown hb5 hsz; have HR0 := Lib.hid hown; have HB5 := Lib.hid hb5; have HTC5 := Lib.hid (HTC.out.ex hb5); have HTN5 := Lib.hid (HTN.out.ex hb5); have htc5 : w5.cell? ⟨gC, ns.length, none⟩ = some (.slice none 0 0) := (by have h9 := Ow.cell HTC5.out (k := ns.length) (by simp); simpa using h9); have hfc5 := Ow.free HTC5.out ns.length; clear hown hb5 hsz) | fail)
          have HLO : Hid (w3.heap.size ≤ wx.heap.size) := Lib.hid HBX.out.size
          have HD0 := Lib.hid (HD.start (ts := ts) HTC5.out HTN5.out hne HR0.out HLO.out)
          have HBD0 : Hid (Below w3.heap.size w3 (w5.setCell ⟨gC, ns.length, none⟩ (.slice (some ⟨wx.heap.size, 0, none⟩) N N))) := Lib.hid ((below_next0 HBX.out HB5.out).setCell (p := ⟨gC, ns.length, none⟩) (HTC5.out.lt gC rfl).1 _)
          have hgC := (HTC5.out.lt gC rfl).1
          have hgN := (HTN5.out.lt gN rfl).1
          clear HTC HTN HTC5 HTN5 htc5 hfc5 HR0 HB5 HBX HLO
          go_loopw [11] (fun v11 wr => ∃ (k : Nat) (j : Int) (us vs : List Value), v11 = .int .i64 j ∧ j = (k : Int) - 1 ∧ k ≤ ns.length ∧ Hid (HD w3.heap.size gC gN ts N ns k us vs wr) ∧ Hid (Below w3.heap.size w3 wr)) (fun v11 _ => (intOf v11 + 1).toNat)
          case atStart => exact ⟨ns.length, _, _, _, rfl, rfl, Nat.le_refl _, HD0, HBD0⟩
          case round =>
            obtain ⟨wh, hwh⟩ : ∃ x : World, x = wr := ⟨wr, rfl⟩
            subst hwh
            clear HD0 HBD0
            obtain ⟨k, j, us, vs, rfl, hj, hk, HH, HB⟩ := hrel
            by_cases hk0 : k = 0
            · subst hk0
              obtain rfl : j = -1 := by omega
              clear hj
              have hr0 := HRP.out 0 0
              rw [List.drop_zero] at hr0
              have HWP := Lib.hid (way_pos (ts := ts) (N := N) (needs := ns) (fun x y => (HSB.out x y).1) hr0)
              have HBL := Lib.hid (bef_lt (ts := ts) (N := N) (needs := ns) (fun x y => (HSB.out x y).1) (by omega) hr0)
              have HBA := Lib.hid (fun (h : Nat) (hh : h < ns.length) hr => bef_at (ts := ts) (fun x y => (HSB.out x y).1) (N := N) hh hr)
              obtain ⟨A0, c0, hct, hgc, hrow⟩ := HH.out.cost (i := 0) (by omega) (by omega)
              obtain ⟨b0, hA0, hb0, -, -, hx0⟩ := hrow 0 (by omega)
              rw [List.drop_zero] at hx0
              subst hA0
              have HCT := Lib.hid hct; have HX0 := Lib.hid hx0
              have hN0 : 0 < (N : Int) := by omega
              have hm0 : 0 < ((ns.length + 1 : Nat) : Int) := by omega
              have HEM := Lib.hid (owI_empty wh wh.heap.size (Nat.le_refl _))
              have HBE := Lib.hid (below_alloc wh (.cells #[] 2))
              clear hct hx0 hrow hr0 HRP HRB HSB
              go_wp2
              go_loopw [17, 18, 117] (fun v17 v18 v117 wr => ∃ (h c2 : Nat) (A2 : Option Addr), v117 = .int .i64 h ∧ h ≤ ns.length ∧ v18 = .int .i64 (befF ts N ns h : Int) ∧ v17 = .slice A2 h c2 ∧ Hid (OwI wr wh.heap.size (.slice A2 h c2) (outF ts N ns h)) ∧ Hid (Below wh.heap.size wh wr)) (fun _ _ v117 _ => ns.length - (intOf v117).toNat)
              case atStart => exact ⟨0, 0, _, rfl, Nat.zero_le _, rfl, rfl, Lib.hid (by simpa [outF] using HEM.out), HBE⟩
              case round =>
                obtain ⟨w4, hw4⟩ : ∃ x : World, x = wr := ⟨wr, rfl⟩
                subst hw4
                clear HEM HBE
                obtain ⟨h, c2, A2, rfl, hh, rfl, rfl, HOW, HB4⟩ := hrel
                by_cases hlt : h < ns.length
                · have hhi : (h : Int) < (ns.length : Int) := by omega
                  have hh1 : (h : Int) < ((ns.length + 1 : Nat) : Int) := by omega
                  have hh1n : h < ns.length + 1 := by omega
                  obtain ⟨k1, k2, -, -, -, -⟩ := HBA.out h hlt (HWP.out h (by omega))
                  have hbl := HBL.out h (by omega)
                  obtain ⟨As, cs, hcs, hgs, hrs⟩ := HH.out.set (i := h) hlt (by omega)
                  obtain ⟨bs, hAs, hbs, hxs⟩ := hrs _ hbl
                  rw [k2] at hxs
                  have hys := (HB4.out.cell (p := ⟨gN, h, none⟩) hgs).trans hcs
                  have hyx := (HB4.out.cell (p := ⟨bs, befF ts N ns h, none⟩) hbs).trans hxs
                  have HOS := Lib.hid (outF_succ ts N ns h)
                  have HOL := Lib.hid (outF_len ts N ns h)
                  obtain ⟨jj, HJ⟩ : ∃ jj, Hid (befF ts N ns (h + 1) = jj) := ⟨_, Lib.hid rfl⟩
                  rw [HJ.out] at k1 hyx HOS
                  clear hxs k2 hrs hcs
                  generalize befF ts N ns h = bf at hbl hyx ⊢
                  have hbfi : (bf : Int) < (N : Int) := by omega
                  subst hAs
                  go_wp2_with (first | (at_builtin; refine wpList_appI w4 rfl (.tmp 127) (.tmp 129) rfl wh.heap.size wh.heap.size wh A2 h c2 _ _ _ _ rfl HOW.out HOL.out rfl HB4.out (Nat.le_refl _) HB4.out.size (by omega) ?_; intro A4 c4 w7 hown3 hg3 hsz3 hb3; have HO3 := Lib.hid hown3; have HB3 := Lib.hid hb3; clear hown3 hg3 hsz3 hb3) | fail)
                  go_roundw
                  case rel => exact ⟨h + 1, c4, A4, by go_num, by omega, by rw [HJ.out], rfl, Lib.hid (by rw [HOS.out]; exact HO3.out), HB3⟩
                  case measure => simp [intOf]; omega
                · have hhi : ¬ ((h : Int) < (ns.length : Int)) := by omega
                  obtain rfl : h = ns.length := by omega
                  have hx1 := (HB4.out.cell (p := ⟨gC, 0, none⟩) hgc).trans HCT.out
                  have hx2 := (HB4.out.cell (p := ⟨b0, 0, none⟩) hb0).trans HX0.out
                  have HBF := Lib.hid (below_next0 HB3.out (below_next0 HB.out HB4.out))
                  have HSZ := Lib.hid (below_next0 HB3.out HB.out).size
                  clear HBL HBA HWP
                  generalize restF ts N ns 0 = r0 at E2 hx2
                  go_wp2
                  go_quiet (fail)
                  go_wp2
                  go_ret3
                  exact ⟨A2, c2, by rw [E2.out]; show _ = Ending.returned (.tuple #[.slice A2 (outF ts N ns ns.length).length c2, .int .i64 r0, .int .i64 0]); rw [outF_len]; rfl, by rw [E2.out]; show OwI _ _ (.slice A2 (outF ts N ns ns.length).length c2) (outF ts N ns ns.length); rw [outF_len]; exact Ow.drewN (OwI.mono HOW.out HSZ.out) _, below_drewN HBF.out _⟩
            · obtain ⟨q, rfl⟩ : ∃ q, k = q + 1 := ⟨k - 1, by omega⟩
              obtain rfl : j = (q : Int) := by omega
              clear hk0 hj
              have hql : q < ns.length := by omega
              have hqi : (q : Int) < (ns.length : Int) := by omega
              have hqm : (q : Int) < ((ns.length + 1 : Nat) : Int) := by omega
              have hqm1 : (q : Int) + 1 < ((ns.length + 1 : Nat) : Int) := by omega
              have hq0 : ¬ ((q : Int) < 0) := by omega
              obtain ⟨bn, on, hBN, hbn, hcn⟩ := HNC.out q hql
              have hgd : ns.getD q 0 = ns[q] := by simp [List.getD_eq_getElem?_getD, hql]
              have hcq := hcn q hql
              rw [← hgd] at hcq
              have HCL : Hid (∀ W, Below w3.heap.size w3 W → W.cell? ⟨bn, on + q, none⟩ = some (.int .i64 (ns.getD q 0)) ∧ W.cell? ⟨w.heap.size, 0, none⟩ = some (.slice A ts.length c)) := Lib.hid fun W hW => ⟨(hW.cell (p := ⟨bn, on + q, none⟩) hbn).trans hcq, (hW.cell (p := ⟨w.heap.size, 0, none⟩) hbl3).trans hbox3⟩
              have hnb := HK.out.2 q hql
              rw [← hgd] at hnb
              obtain ⟨hn0, hn1⟩ := hnb
              obtain ⟨A', c', hct, hgc, hrow⟩ := HH.out.cost (i := q + 1) (by omega) (by omega)
              have HROW := Lib.hid hrow
              have HCT := Lib.hid hct
              have HBG := Lib.hid (HH.out.begin hql)
              have HFB : Hid (∀ s, 0 ≤ restF ts N (ns.drop (q + 1)) s ∧ restF ts N (ns.drop (q + 1)) s ≤ 1920000) := Lib.hid fun s => by
                have h9 := HRB.out (ns.drop (q + 1)) s
                have h7 := HRP.out (q + 1) s
                have h8 : (ns.drop (q + 1)).length ≤ 24 := by rw [List.length_drop]; omega
                omega
              have HRE : Hid (∀ b : Nat, restF ts N (ns.drop q) b = (bstep ts (ns.getD q 0) (restF ts N (ns.drop (q + 1))) (b : Int) N).2) := Lib.hid (fun b => by rw [hgd]; exact rest_cons hql b)
              have HRS := Lib.hid (fun b => rowF_succ ts N (ns.drop q) b)
              have HRN := Lib.hid (fun b => rowN_succ ts N (ns.getD q 0) (ns.drop (q + 1)) b)
              have HNX := Lib.hid (fun (A2 A3 : Option Addr) (c2 c3 : Nat) W hb => HH.out.next (W := W) (A2 := A2) (A3 := A3) (c2 := c2) (c3 := c3) hql HB.out.size hb)
              have HOT := Lib.hid (fun (A2 A3 : Option Addr) (n2 c2 n3 c3 : Nat) (xs ys : List Int) (u : Value) (vs' : List Value) W (hb : BD wh w3.heap.size gC gN (ns.length + 1) (us.set q u) vs' A2 n2 c2 xs A3 n3 c3 ys W) => hb.other HH.out (i := q + 1) (by omega) (by omega) HCT.out)
              have hlu := HH.out.lu; have hlv := HH.out.lv
              clear hcn hcq hgd hct hrow
              generalize restF ts N (ns.drop (q + 1)) = f at HROW HFB HRE HRN
              generalize ns.getD q 0 = need at HCL hn0 hn1 HRE HRN HNX
              subst hBN
              go_wp2
              go_loopw [56] (fun v56 wr => ∃ (b c2 c3 : Nat) (A2 A3 : Option Addr), v56 = .int .i64 b ∧ b ≤ N ∧ Hid (BD wh w3.heap.size gC gN (ns.length + 1) (us.set q (.slice A2 b c2)) (vs.set q (.slice A3 b c3)) A2 b c2 (rowF ts N (ns.drop q) b) A3 b c3 (rowN ts N need (ns.drop (q + 1)) b) wr)) (fun v56 _ => N - (intOf v56).toNat)
              case atStart => exact ⟨0, 0, 0, none, none, rfl, Nat.zero_le _, Lib.hid (by simpa [rowF, rowN] using HBG.out)⟩
              case round =>
                obtain ⟨w4, hw4⟩ : ∃ x : World, x = wr := ⟨wr, rfl⟩
                subst hw4
                clear HBG
                obtain ⟨b, c2, c3, A2, A3, rfl, hbN, HBD⟩ := hrel
                have HBW : Hid (Below w3.heap.size w3 w4) := Lib.hid (HB.out.trans (GrS.below HBD.out.gr (fun k hk hr => by rcases hr with rfl | rfl | hr; exact hgC; exact hgN; omega) HB.out.size))
                by_cases hlt : b < N
                · have hbi : (b : Int) < (N : Int) := by omega
                  have HCT4 := Lib.hid (HOT.out _ _ _ _ _ _ _ _ _ _ _ HBD.out)
                  have HGR := Lib.hid HBD.out.gr
                  go_wp2
                  go_loopw [13, 14, 60] (fun v13 v14 v60 wr => ∃ s : Nat, v60 = .int .i64 s ∧ s ≤ N ∧ v13 = .int .i64 (bstep ts need f (b : Int) s).1 ∧ v14 = .int .i64 (bstep ts need f (b : Int) s).2 ∧ Hid (Below w4.heap.size w4 wr)) (fun _ _ v60 _ => N - (intOf v60).toNat)
                  case atStart => exact ⟨0, rfl, Nat.zero_le _, rfl, rfl, Lib.hid (Below.refl _ _)⟩
                  case round =>
                    obtain ⟨w5, hw5⟩ : ∃ x : World, x = wr := ⟨wr, rfl⟩
                    subst hw5
                    obtain ⟨s, rfl, hsN, rfl, rfl, HB5⟩ := hrel
                    by_cases hlt2 : s < N
                    · have hsi : (s : Int) < (N : Int) := by omega
                      obtain ⟨br, hA', hbr, hbc, hbn2, hfx0⟩ := HROW.out s hlt2
                      have hfx4 := (HGR.out.cell hbr (by rintro (h | h | h); exact hbc h; exact hbn2 h; omega)).trans hfx0
                      have hbr4 : br < w4.heap.size := Nat.lt_of_lt_of_le hbr HGR.out.size
                      have HX : Hid (∀ W, Below w4.heap.size w4 W → W.cell? ⟨bn, on + q, none⟩ = some (.int .i64 need) ∧ W.cell? ⟨w.heap.size, 0, none⟩ = some (.slice A ts.length c) ∧ W.cell? ⟨gC, q + 1, none⟩ = some (.slice (some ⟨br, 0, none⟩) N c') ∧ W.cell? ⟨br, s, none⟩ = some (.int .i64 (f s))) := Lib.hid fun W hW => by
                        obtain ⟨h1, h2⟩ := HCL.out W (below_next HBW.out HBW.out.size hW)
                        refine ⟨h1, h2, ?_, (hW.cell (p := ⟨br, s, none⟩) hbr4).trans hfx4⟩
                        rw [← hA']; exact (hW.cell (p := ⟨gC, q + 1, none⟩) (HBD.out.tc.lt gC rfl).2).trans HCT4.out
                      have HPC := Lib.hid (fun W (hW : Below w4.heap.size w4 W) => powerOf_any _ ts (s : Int) W (HV3.out.ex (below_next0 (below_next HBW.out HBW.out.size hW) (Below.refl _ _))) HO.out (by omega))
                      have HSC := Lib.hid (fun W (hW : Below w4.heap.size w4 W) => hourCost_any _ ts (b : Int) (s : Int) W (HV3.out.ex (below_next0 (below_next HBW.out HBW.out.size hW) (Below.refl _ _))) HO.out (by omega) (by omega))
                      have HNO := Lib.hid (@bstep_no ts need f (b : Int) s); have HNEW := Lib.hid (@bstep_new ts need f (b : Int) s); have HOLD := Lib.hid (@bstep_old ts need f (b : Int) s)
                      obtain ⟨hst0, hst1⟩ := HSB.out (b : Int) (s : Int); obtain ⟨hfs0, hfs1⟩ := HFB.out s
                      generalize powT ts (s : Int) = pw at HPC HNO HNEW
                      generalize stepT ts (b : Int) (s : Int) = sp at HSC HNEW HOLD hst0 hst1
                      generalize f s = fs at HX HNO HNEW HOLD hfs0 hfs1 hfx4 hfx0
                      generalize bstep ts need f (b : Int) s = pr at HNO HNEW HOLD ⊢
                      obtain ⟨p1, p2⟩ := pr
                      dsimp only at HNEW HOLD ⊢
                      obtain ⟨hx1, hx2, hx3, hx4⟩ := HX.out w5 HB5.out
                      have hy1 := cell_plus hx1; have hy2 := cell_plus hx2
                      have HPC5 := Lib.hid (fun W (hW : Below w5.heap.size w5 W) => HPC.out W (below_next0 HB5.out hW))
                      clear hA' hbr hfx0 hfx4 HPC hx1 hx2 hx3 hx4
                      by_cases hpw : pw < need
                      · have hd : decide (pw < need) = true := decide_eq_true hpw
                        have HE := Lib.hid (HNO.out (.inl hpw))
                        clear hpw HNO HNEW HOLD HSC HX
                        go_wp2
                        refine wp_region_plus (by kernel_rfl) (by kernel_rfl) ?_
                        repeat (go_big_quiet_step (((go_at_call 64; exact plus_below (HPC5.out _ (below_plus _ _))))))
                        refine wpQuiet_nil ?_
                        intro wq hwq
                        replace hwq := below_of_plus hwq
                        go_wp2
                        go_roundw
                        case rel => exact ⟨s + 1, by go_num, by omega, by rw [HE.out], by rw [HE.out], Lib.hid (below_next0 HB5.out hwq)⟩
                        case measure => simp [intOf]; omega
                      · have hd : decide (pw < need) = false := decide_eq_false hpw
                        have HE := Lib.hid (HNEW.out (by omega) hfs0); have HF := Lib.hid HOLD.out
                        clear hpw HNO HNEW HOLD
                        go_wp2
                        refine wp_region_plus (by kernel_rfl) (by kernel_rfl) ?_
                        repeat (go_big_quiet_step (((go_at_call 64; exact plus_below (HPC5.out _ (below_plus _ _))))))
                        refine wpQuiet_nil ?_
                        intro wq hwq
                        replace hwq := below_of_plus hwq
                        obtain ⟨w6, hw6⟩ : ∃ x : World, x = wq := ⟨wq, rfl⟩
                        subst hw6
                        have HB6 := Lib.hid (below_next0 HB5.out hwq)
                        obtain ⟨hx1, hx2, hx3, hx4⟩ := HX.out w6 HB6.out
                        clear hy1 hy2 hwq HPC5
                        have hy2 := cell_plus hx2; have hy3 := cell_plus hx3; have hy4 := cell_plus hx4
                        have HSC6 := Lib.hid (fun W (hW : Below w6.heap.size w6 W) => HSC.out W (below_next0 HB6.out hW))
                        clear HX HSC hx1 hx2 hx3 hx4
                        go_wp2
                        refine wp_region_plus (by kernel_rfl) (by kernel_rfl) ?_
                        repeat (go_big_quiet_step (((go_at_call 68; exact plus_below (HSC6.out _ (below_plus _ _))))))
                        refine wpQuiet_nil ?_
                        intro wq hwq
                        replace hwq := below_of_plus hwq
                        have HB7 := Lib.hid (below_next0 HB6.out hwq)
                        clear hwq hy2 hy3 hy4
                        by_cases hc1 : p2 < 0
                        · have HG := Lib.hid (HE.out (.inl hc1))
                          go_wp2
                          go_roundw
                          case rel => exact ⟨s + 1, by go_num, by omega, by rw [HG.out], by rw [HG.out], HB7⟩
                          case measure => simp [intOf]; omega
                        · by_cases hc2 : sp + fs < p2
                          · have HG := Lib.hid (HE.out (.inr hc2))
                            go_wp2
                            go_roundw
                            case rel => exact ⟨s + 1, by go_num, by omega, by rw [HG.out], by rw [HG.out], HB7⟩
                            case measure => simp [intOf]; omega
                          · have HG := Lib.hid (HF.out (by omega))
                            go_wp2
                            go_roundw
                            case rel => exact ⟨s + 1, by go_num, by omega, by rw [HG.out], by rw [HG.out], HB7⟩
                            case measure => simp [intOf]; omega
                    · have hsi : ¬ ((s : Int) < (N : Int)) := by omega
                      obtain rfl : s = N := by omega
                      have HREB := Lib.hid (HRE.out b)
                      have HRSB := Lib.hid (HRS.out b)
                      have HRNB := Lib.hid (HRN.out b)
                      rw [HREB.out] at HRSB
                      have HBD5 := Lib.hid (HBD.out.ex HB5.out)
                      clear HREB HRE HRS HRN HROW HFB HRB HRP HSB HOT HCT4 HGR HBW HBD E2 HNX HCL HCT
                      generalize bstep ts need f (b : Int) s = pr at HRSB HRNB ⊢
                      obtain ⟨p1, p2⟩ := pr
                      dsimp only at HRSB HRNB ⊢
                      have hql2 : q < us.length := by omega
                      have hqv2 : q < vs.length := by omega
                      have HC : Hid (∀ (W : World) (us vs : List Value) (A2 : Option Addr) (n2 c2 : Nat) (xs : List Int) (A3 : Option Addr) (n3 c3 : Nat) (ys : List Int) (x : Value), BD wh w3.heap.size gC gN (ns.length + 1) (us.set q x) vs A2 n2 c2 xs A3 n3 c3 ys W → q < us.length → W.cell? ⟨gC, q, none⟩ = some x ∧ W.frozen? ⟨gC, q, none⟩ = false) := Lib.hid fun W us vs A2 n2 c2 xs A3 n3 c3 ys x hb h1 => ⟨by have h9 := hb.cellC (q := q) (by simpa using h1); simpa using h9, hb.freeC q⟩
                      have HCN : Hid (∀ (W : World) (us vs : List Value) (A2 : Option Addr) (n2 c2 : Nat) (xs : List Int) (A3 : Option Addr) (n3 c3 : Nat) (ys : List Int) (x : Value), BD wh w3.heap.size gC gN (ns.length + 1) us (vs.set q x) A2 n2 c2 xs A3 n3 c3 ys W → q < vs.length → W.cell? ⟨gN, q, none⟩ = some x ∧ W.frozen? ⟨gN, q, none⟩ = false) := Lib.hid fun W us vs A2 n2 c2 xs A3 n3 c3 ys x hb h1 => ⟨by have h9 := hb.cellN (q := q) (by simpa using h1); simpa using h9, hb.freeN q⟩
                      have HBD := HBD5
                      obtain ⟨hlc, hfc⟩ := HC.out _ _ _ _ _ _ _ _ _ _ _ _ HBD.out hql2
                      obtain ⟨hln, hfn⟩ := HCN.out _ _ _ _ _ _ _ _ _ _ _ _ HBD.out hqv2
                      have hlco := fun o => (HC.out _ _ _ _ _ _ _ _ _ _ _ _ (HBD.out.ex (below_alloc _ o)) hql2).1
                      have hlno := fun o => (HCN.out _ _ _ _ _ _ _ _ _ _ _ _ (HBD.out.ex (below_alloc _ o)) hqv2).1
                      have hlcoo := fun o o' => (HC.out _ _ _ _ _ _ _ _ _ _ _ _ (HBD.out.ex (below_alloc2 _ o o')) hql2).1
                      have hlnoo := fun o o' => (HCN.out _ _ _ _ _ _ _ _ _ _ _ _ (HBD.out.ex (below_alloc2 _ o o')) hqv2).1
                      have HSZ : Hid (wh.heap.size ≤ w5.heap.size) := Lib.hid HBD.out.gr.size
                      have hb24 : b + 1 ≤ 16 := by omega
                      have hqn1 : (q : Int) < (ns.length : Int) + 1 := by omega
                      have hqn2 : q < ns.length + 1 := by omega
                      go_wp2
                      go_region_law (first
                        | (refine step_app1 _ (by rfl) _ _ _ (by rfl) wh.heap.size 2 (.int .i64 0) 1 8 Try.underlying22 infoI64 rfl (by omega) (.slice A2 b c2) b _ (by rfl) (HBD.out.ex (by repeat' (first | exact Below.refl _ _ | apply Below.drew | refine Below.alloc ?_ (by first | omega | (simp; done) | (simp; omega)) _))).rc _ _ [.int .i64 p2] (by rfl) rfl (by intro j u hj; match j, hj with | 0, hj => (simp at hj; subst hj; simp) | j + 1, hj => simp at hj) (by intro u hu; simp at hu; subst hu; rfl) (by omega) (by omega) (by have h9 := HSZ.out; simp; omega) ?_; intro g7 c7 w7 ho7 hg7 hor7 hlt7; have HK := Lib.hid (fun (p : Addr) (v : Value) (hp : w5.heap.size ≤ p.block) (h : World.cell? _ p = some v) => hg7.cell h (fun he => by have h9 := (HBD5.out.rc.lt p.block he.symm).2; omega)); have HBD := Lib.hid (BD.appC (HBD.out.ex (by repeat' (first | exact Below.refl _ _ | apply Below.drew | refine Below.alloc ?_ (by first | omega | (simp; done) | (simp; omega)) _))) ho7 hg7 hor7); have HSZ : Hid (wh.heap.size ≤ w7.heap.size) := Lib.hid HBD.out.gr.size; have hln7 := (HCN.out _ _ _ _ _ _ _ _ _ _ _ _ HBD.out hqv2).1; have hln7o := fun o => (HCN.out _ _ _ _ _ _ _ _ _ _ _ _ (HBD.out.ex (below_alloc _ o)) hqv2).1; clear ho7 hg7 hor7 hlt7)
                        | (refine step_app1 _ (by rfl) _ _ _ (by rfl) wh.heap.size 2 (.int .i64 0) 1 8 Try.underlying22 infoI64 rfl (by omega) (.slice A3 b c3) b _ (by rfl) (HBD.out.ex (by repeat' (first | exact Below.refl _ _ | apply Below.drew | refine Below.alloc ?_ (by first | omega | (simp; done) | (simp; omega)) _))).rn _ _ [.int .i64 p1] (by rfl) rfl (by intro j u hj; match j, hj with | 0, hj => (simp at hj; subst hj; first | (simp; done) | exact HK.out _ _ (by simp) (by simp)) | j + 1, hj => simp at hj) (by intro u hu; simp at hu; subst hu; rfl) (by omega) (by omega) (by have h9 := HSZ.out; simp; omega) ?_; intro g8 c8 w8 ho8 hg8 hor8 hlt8; have HBD := Lib.hid (BD.appN (HBD.out.ex (by repeat' (first | exact Below.refl _ _ | apply Below.drew | refine Below.alloc ?_ (by first | omega | (simp; done) | (simp; omega)) _))) ho8 hg8 hor8); obtain ⟨hlc8, hfc8⟩ := HC.out _ _ _ _ _ _ _ _ _ _ _ _ HBD.out hql2; obtain ⟨hln8, hfn8⟩ := HCN.out _ _ _ _ _ _ _ _ _ _ _ _ HBD.out hqv2; have hln9 := fun x => (HCN.out _ _ _ _ _ _ _ _ _ _ _ _ (HBD.out.stC q x) hqv2).1; have hfn9 := fun x => (HCN.out _ _ _ _ _ _ _ _ _ _ _ _ (HBD.out.stC q x) hqv2).2; clear ho8 hg8 hor8 hlt8))
                      all_goals
                        have HF := Lib.hid ((HBD.out.stC q (.slice (some ⟨g7, 0, none⟩) (b + 1) c7)).stN q (.slice (some ⟨g8, 0, none⟩) (b + 1) c8))
                        clear hlc hfc hln hfn hlco hlno hlcoo hlnoo hln7 hln7o hlc8 hfc8 hln8 hfn8 hln9 hfn9 HK HC HCN
                        go_wp2
                        go_roundw
                        case rel => exact ⟨b + 1, c7, c8, some ⟨g7, 0, none⟩, some ⟨g8, 0, none⟩, by go_num, by omega, Lib.hid (by rw [HRSB.out, HRNB.out]; have h9 := HF.out; rw [List.set_set, List.set_set] at h9; first | exact h9 | exact h9.ex (Below.refl _ _).drew)⟩
                        case measure => simp [intOf]; omega
                · have hbi : ¬ ((b : Int) < (N : Int)) := by omega
                  obtain rfl : b = N := by omega
                  have HH2 := Lib.hid (HNX.out A2 A3 c2 c3 w4 HBD.out)
                  go_wp2
                  go_roundw
                  case rel => exact ⟨q, (q : Int) - 1, _, _, by go_num, rfl, by omega, HH2, HBW⟩
                  case measure => simp [intOf] <;> omega
end Go.Proofs.Ytjleabgoajoegaa
