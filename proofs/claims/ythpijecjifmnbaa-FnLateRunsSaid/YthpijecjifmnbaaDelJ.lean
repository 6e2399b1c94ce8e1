/-
WorstStation of the program. Condition: the slices read as lists.
-/
import Derived.Test.YthpijecjifmnbaaDelD
namespace Go.Proofs.Ythpijecjifmnbaa
open Go.RowKit
set_option linter.unusedVariables false

theorem make10 : ∃ M : Array Value, M.toList = List.replicate 10 (Value.int .i64 0) ∧ ∀ W : World, (Instr.makeSlice 40 (.int .i64 10) (.int .i64 10)).run Try.prog W = .ok (.slice (some ⟨W.heap.size, 0, none⟩) 10 10) (W.alloc (.cells M 2)) := by
  obtain ⟨i0, hi, hz0, hz1, hz2⟩ := info_parts infoI
  refine ⟨madeCells (Value.int .i64 0).cells ((10 : Int).toNat * i0.size), ?_, fun W => ?_⟩
  · rw [hz1]
    exact toList_madeCells_one (Value.int .i64 0) 10
  · have h := run_makeSlice (P := Try.prog) W 40 2 i0 (.int .i64 0) Try.underlying40 hi hz0 .i64 .i64 10 10 (by omega) (by omega) (by rw [hz1]; decide) (by rw [hz2]; decide) (by decide)
    simpa using h
theorem own10 {M : Array Value} (hM : M.toList = List.replicate 10 (Value.int .i64 0)) (W : World) (lo : Nat) (hlo : lo ≤ W.heap.size) : Ow (W.alloc (.cells M 2)) lo 2 1 (.slice (some ⟨W.heap.size, 0, none⟩) 10 10) 10 (List.replicate 10 (Value.int .i64 0)) := by
  have hs : M.size = 10 * 1 := by rw [← Array.length_toList, hM, List.length_replicate]
  have h := World.ownsRow_lit (e := 2) W M 10 hlo (by unfold maxLen; omega) hs
  rw [hM] at h
  exact ⟨h, by omega⟩

set_option maxRecDepth 100000 in
set_option maxHeartbeats 2000000 in
theorem implWorst_any (v : Value) (ts : List Trip) (w : World) (hv : SlTrip w v ts) :
    Calls Try.prog 25 #[v] w fun e w' => e = .returned (.tuple #[.int .i64 (worstR ts).1, .int .i64 (worstR ts).2]) ∧ Below w.heap.size w w' := by
  have HO := Lib.hid (tripsCode_any v ts 0 0 0 w hv)
  obtain ⟨M, hM, hmk⟩ := make10
  have HM := Lib.hid hM
  obtain ⟨A, c, rfl, hla, ha⟩ := hv.op
  have HA := Lib.hid ha
  clear hv ha hM
  have HR : Hid (worstR ts = if tripsOk ts = true then (if ts.length = 0 then (0, 3) else (worstK (accF Trip.late ts ts.length) (accF (fun _ => 1) ts ts.length) 10, 0)) else (0, 1)) := Lib.hid rfl
  have HC : Hid (codeT ts 0 0 0 = if tripsOk ts = true then (if ts.length = 0 then 3 else 0) else 1) := Lib.hid (by unfold codeT; rw [show inB 0 0 0 = true by decide]; simp)
  go_enter Try.func25, Try.ntmps25
  go_wp2_with fail
  refine HO.out.mono ?_
  rintro e w1 ⟨rfl, hb1⟩
  have HB1 := Lib.hid hb1
  clear hb1
  cases hok : tripsOk ts with
  | false =>
    have E : Hid (worstR ts = (0, 1)) := Lib.hid (by rw [HR.out, hok]; rfl)
    rw [show codeT ts 0 0 0 = 1 by rw [HC.out, hok]; rfl]
    clear hok
    go_wp2
    go_ret2
    exact ⟨by rw [E.out]; rfl, HB1.out⟩
  | true =>
    by_cases hz : ts.length = 0
    · have E : Hid (worstR ts = (0, 3)) := Lib.hid (by rw [HR.out, hok, if_pos hz]; rfl)
      rw [show codeT ts 0 0 0 = 3 by rw [HC.out, hok, if_pos hz]; rfl]
      clear hok hz
      go_wp2
      go_ret2
      exact ⟨by rw [E.out]; rfl, HB1.out⟩
    · have E : Hid (worstR ts = (worstK (accF Trip.late ts ts.length) (accF (fun _ => 1) ts ts.length) 10, 0)) := Lib.hid (by rw [HR.out, hok, if_neg hz]; rfl)
      rw [show codeT ts 0 0 0 = 0 by rw [HC.out, hok, if_neg hz]; rfl]
      obtain ⟨hl, hall⟩ := tripsOk_at hok
      have HALL := Lib.hid hall
      have HTO := Lib.hid fun k (hk : k < ts.length) => to_bd hok hk
      have HLB : Hid (∀ h n, n ≤ ts.length → 0 ≤ accF Trip.late ts n h ∧ accF Trip.late ts n h ≤ 10000 * (n : Int)) := Lib.hid fun h n hn => accF_bd (by omega) (fun k hk => by rw [trA_at hk]; exact Trip.late_bd (hall k hk)) h n hn
      have HCB : Hid (∀ h n, n ≤ ts.length → 0 ≤ accF (fun _ => 1) ts n h ∧ accF (fun _ => 1) ts n h ≤ 1 * (n : Int)) := Lib.hid fun h n hn => accF_bd (by omega) (fun k hk => by omega) h n hn
      clear hok hall
      have HG1 : Hid (Ow ((w1.drew.alloc (.cells M 2)).alloc (.cells M 2)) w.heap.size 2 1 (.slice (some ⟨w1.heap.size, 0, none⟩) 10 10) 10 (List.replicate 10 (Value.int .i64 0))) := Lib.hid ((own10 HM.out w1.drew w.heap.size HB1.out.size).alloc _)
      have HG2 : Hid (Ow ((w1.drew.alloc (.cells M 2)).alloc (.cells M 2)) w.heap.size 2 1 (.slice (some ⟨w1.heap.size + 1, 0, none⟩) 10 10) 10 (List.replicate 10 (Value.int .i64 0))) := Lib.hid (by
        have h := own10 HM.out (w1.drew.alloc (.cells M 2)) w.heap.size (by have := HB1.out.size; simp; omega)
        simpa using h)
      have HBW : Hid (Below w.heap.size w ((w1.drew.alloc (.cells M 2)).alloc (.cells M 2))) := Lib.hid (below_next0 HB1.out.drew (below_alloc2 _ _ _))
      go_wp2
      go_region_with (fail)
      · have HNE : Hid ((w1.heap.size) ≠ (w1.heap.size + 1)) := Lib.hid (by omega)
        have HLOS : Hid (w.heap.size ≤ (w1.heap.size)) := Lib.hid (by have := HB1.out.size; omega)
        have HLON : Hid (w.heap.size ≤ (w1.heap.size + 1)) := Lib.hid (by have := HB1.out.size; omega)
        have HS0 : Hid (OwI ((w1.drew.alloc (.cells M 2)).alloc (.cells M 2)) w.heap.size (.slice (some ⟨(w1.heap.size), 0, none⟩) 10 10) (accL Trip.late ts 0)) := Lib.hid (by unfold OwI; rw [accL_len, accL_zero]; simpa using HG1.out)
        have HN0 : Hid (OwI ((w1.drew.alloc (.cells M 2)).alloc (.cells M 2)) w.heap.size (.slice (some ⟨(w1.heap.size + 1), 0, none⟩) 10 10) (accL (fun _ => 1) ts 0)) := Lib.hid (by unfold OwI; rw [accL_len, accL_zero]; simpa using HG2.out)
        go_wp2
        generalize w1.heap.size + 1 = gn at HNE HLON HN0 ⊢
        generalize w1.heap.size = gs at HNE HLOS HS0 ⊢
        clear HO HG1 HG2
        go_loopw [21] (fun i wr => ∃ k : Nat, k ≤ ts.length ∧ i = .int .i64 (k : Int) ∧ Hid (OwI wr w.heap.size (.slice (some ⟨gs, 0, none⟩) 10 10) (accL Trip.late ts k)) ∧ Hid (OwI wr w.heap.size (.slice (some ⟨gn, 0, none⟩) 10 10) (accL (fun _ => 1) ts k)) ∧ Hid (Below w.heap.size w wr)) (fun i _ => ts.length - (intOf i).toNat)
        case atStart => exact ⟨0, Nat.zero_le _, rfl, HS0, HN0, HBW⟩
        case round =>
          obtain ⟨k, hk, rfl, HS, HN, HB⟩ := hrel
          by_cases hlt : k < ts.length
          · have hki : (k : Int) < (ts.length : Int) := by omega
            obtain ⟨b, o, rfl, hbs, hc0, hc1, hc2⟩ := HA.out k hlt
            have hx0 := (HB.out.cell (p := ⟨b, o + k * 3, none⟩) hbs).trans hc0
            have hx1 := (HB.out.cell (p := ⟨b, o + k * 3 + 1, none⟩) hbs).trans hc1
            have hx2 := (HB.out.cell (p := ⟨b, o + k * 3 + 2, none⟩) hbs).trans hc2
            obtain ⟨h, hh, hto⟩ := HTO.out k hlt
            have HLT := Lib.hid fun W => delay_any ts[k].to ts[k].due ts[k].came W (HALL.out k hlt)
            have hk' : Trip.late ⟨ts[k].to, ts[k].due, ts[k].came⟩ = ts[k].late := rfl
            rw [hk', hto] at HLT
            rw [hto] at hx0
            have HES := Lib.hid (accL_set (f := Trip.late) (trA_at hlt) hto _ rfl)
            have HEN := Lib.hid (accL_set (f := fun _ => 1) (trA_at hlt) hto _ rfl)
            have hlb := HLB.out h k hk
            have hcb := HCB.out h k hk
            have hxb := Trip.late_bd (HALL.out k hlt)
            have hls := accL_len Trip.late ts k
            have hln := accL_len (fun _ => 1) ts k
            have hs1 : wr.cell? ⟨gs, h, none⟩ = some (.int .i64 (accF Trip.late ts k h)) := by
              rw [OwI.cell (c := 10) (xs := accL Trip.late ts k) (by rw [hls]; exact HS.out) (k := h) (by rw [hls]; exact hh), accL_get]
            have hn1 : wr.cell? ⟨gn, h, none⟩ = some (.int .i64 (accF (fun _ => 1) ts k h)) := by
              rw [OwI.cell (c := 10) (xs := accL (fun _ => 1) ts k) (by rw [hln]; exact HN.out) (k := h) (by rw [hln]; exact hh), accL_get]
            have hfs := OwI.free (c := 10) (xs := accL Trip.late ts k) (by rw [hls]; exact HS.out) h
            have hfn := OwI.free (c := 10) (xs := accL (fun _ => 1) ts k) (by rw [hln]; exact HN.out) h
            have HGSL : Hid (gs < wr.heap.size) := Lib.hid (HS.out.lt gs rfl).2
            have HGNL : Hid (gn < wr.heap.size) := Lib.hid (HN.out.lt gn rfl).2
            have HTW : Hid (∀ (W : World), Below wr.heap.size wr W → OwI ((W.setCell ⟨gs, h, none⟩ (.int .i64 (accF Trip.late ts k h + ts[k].late))).setCell ⟨gn, h, none⟩ (.int .i64 (accF (fun _ => 1) ts k h + 1))) w.heap.size (.slice (some ⟨gs, 0, none⟩) 10 10) (accL Trip.late ts (k + 1)) ∧ OwI ((W.setCell ⟨gs, h, none⟩ (.int .i64 (accF Trip.late ts k h + ts[k].late))).setCell ⟨gn, h, none⟩ (.int .i64 (accF (fun _ => 1) ts k h + 1))) w.heap.size (.slice (some ⟨gn, 0, none⟩) 10 10) (accL (fun _ => 1) ts (k + 1)) ∧ Below w.heap.size w ((W.setCell ⟨gs, h, none⟩ (.int .i64 (accF Trip.late ts k h + ts[k].late))).setCell ⟨gn, h, none⟩ (.int .i64 (accF (fun _ => 1) ts k h + 1)))) := Lib.hid fun W hW => by
              have h1 := two_set (c1 := 10) (c2 := 10) HNE.out (xs := accL Trip.late ts k) (ys := accL (fun _ => 1) ts k) (by rw [hls]; exact HS.out.ex hW) (by rw [hln]; exact HN.out.ex hW) h h (accF Trip.late ts k h + ts[k].late) (accF (fun _ => 1) ts k h + 1)
              rw [HES.out, HEN.out, hls, hln] at h1
              exact ⟨h1.1, h1.2, ((below_next0 HB.out hW).setCell (p := ⟨gs, h, none⟩) HLOS.out _).setCell (p := ⟨gn, h, none⟩) HLON.out _⟩
            generalize accF Trip.late ts k h = x at hs1 HTW hlb
            generalize accF (fun _ => 1) ts k h = y at hn1 HTW hcb
            generalize ts[k].late = l at HLT HTW hxb
            generalize ts[k].due = du at hx1 HLT
            generalize ts[k].came = ca at hx2 HLT
            have HK : Hid (∀ W', Below ((wr.alloc (.cells #[.int .i64 h, .int .i64 du, .int .i64 ca] 26)).drew).heap.size ((wr.alloc (.cells #[.int .i64 h, .int .i64 du, .int .i64 ca] 26)).drew) W' → (W'.cell? ⟨wr.heap.size, 0, none⟩ = some (.int .i64 h) ∧ W'.cell? ⟨gs, h, none⟩ = some (.int .i64 x) ∧ W'.frozen? ⟨gs, h, none⟩ = false ∧ W'.cell? ⟨gn, h, none⟩ = some (.int .i64 y) ∧ W'.frozen? ⟨gn, h, none⟩ = false) ∧ Below wr.heap.size wr W') := Lib.hid fun W' hW => by
              have hB : Below wr.heap.size wr W' := below_next0 (below_alloc wr (.cells #[.int .i64 h, .int .i64 du, .int .i64 ca] 26)).drew hW
              refine ⟨⟨?_, (hB.cell (p := ⟨gs, h, none⟩) HGSL.out).trans hs1, (hB.frozen (p := ⟨gs, h, none⟩) HGSL.out).trans hfs, (hB.cell (p := ⟨gn, h, none⟩) HGNL.out).trans hn1, (hB.frozen (p := ⟨gn, h, none⟩) HGNL.out).trans hfn⟩, hB⟩
              rw [hW.cell (p := ⟨wr.heap.size, 0, none⟩) (by simp)]; simp [go_sem]
            have hbA := below_alloc wr (.cells #[.int .i64 h, .int .i64 du, .int .i64 ca] 26)
            have hs2 := (hbA.cell (p := ⟨gs, h, none⟩) HGSL.out).trans hs1
            have hn2 := (hbA.cell (p := ⟨gn, h, none⟩) HGNL.out).trans hn1
            have hfs2 := (hbA.frozen (p := ⟨gs, h, none⟩) HGSL.out).trans hfs
            have hfn2 := (hbA.frozen (p := ⟨gn, h, none⟩) HGNL.out).trans hfn
            clear hbA
            have hne : ¬ (gs = gn) := HNE.out
            have hne2 : ¬ (gn = gs) := fun h => HNE.out h.symm
            have hgs1 : ¬ (gs = wr.heap.size) := by have := HGSL.out; omega
            have hgs2 : ¬ (wr.heap.size = gs) := fun h => hgs1 h.symm
            have hgn1 : ¬ (gn = wr.heap.size) := by have := HGNL.out; omega
            have hgn2 : ¬ (wr.heap.size = gn) := fun h => hgn1 h.symm
            have hhi : (h : Int) < 10 := by omega
            have hwr : IntKind.i64.wrap (x + l) = x + l := by rw [IntKind.wrap_i64]; omega
            clear hc0 hc1 hc2 hk' hls hln HES HEN hto
            go_wp2
            go_region_with (go_at_call 52; refine (HLT.out _).mono ?_; rintro e w3 ⟨rfl, hb3⟩; obtain ⟨⟨kk0, kk1, kk2, kk3, kk4⟩, hb4⟩ := HK.out _ hb3)
            all_goals
              obtain ⟨hT1, hT2, hT3⟩ := HTW.out w3 hb4
              have HT1 := Lib.hid hT1; have HT2 := Lib.hid hT2; have HT3 := Lib.hid hT3
              clear hT1 hT2 hT3 hb3 hb4
              go_wp2
              go_roundw
              case rel => exact ⟨k + 1, by omega, by go_num, HT1, HT2, HT3⟩
              case measure => simp [intOf]; omega
          · have hkn : k = ts.length := by omega
            subst hkn
            have HTB := Lib.hid fun h => HLB.out h ts.length (Nat.le_refl _)
            have HTC := Lib.hid fun h => HCB.out h ts.length (Nat.le_refl _)
            have HGS : Hid (∀ W, Below wr.heap.size wr W → ∀ h, h < 10 → W.cell? ⟨gs, h, none⟩ = some (.int .i64 (accF Trip.late ts ts.length h))) := Lib.hid fun W hW h hh => by
              have hls := accL_len Trip.late ts ts.length
              rw [OwI.cell (c := 10) (xs := accL Trip.late ts ts.length) (by rw [hls]; exact HS.out.ex hW) (k := h) (by rw [hls]; exact hh), accL_get]
            have HGN : Hid (∀ W, Below wr.heap.size wr W → ∀ h, h < 10 → W.cell? ⟨gn, h, none⟩ = some (.int .i64 (accF (fun _ => 1) ts ts.length h))) := Lib.hid fun W hW h hh => by
              have hls := accL_len (fun _ => 1) ts ts.length
              rw [OwI.cell (c := 10) (xs := accL (fun _ => 1) ts ts.length) (by rw [hls]; exact HN.out.ex hW) (k := h) (by rw [hls]; exact hh), accL_get]
            generalize accF Trip.late ts ts.length = S at HTB HGS E
            generalize accF (fun _ => 1) ts ts.length = C at HTC HGN E
            obtain ⟨wA, hwA⟩ : ∃ wA : World, wA = wr := ⟨_, rfl⟩
            rw [← hwA] at HGS HGN HB ⊢
            clear hwA HS HN
            go_wp2
            go_loopw [7, 44] (fun bst i wr => ∃ k : Nat, k ≤ 10 ∧ i = .int .i64 (k : Int) ∧ bst = .int .i64 (worstK S C k) ∧ Hid (Below wA.heap.size wA wr)) (fun _ i _ => 10 - (intOf i).toNat)
            case atStart => exact ⟨0, by omega, rfl, rfl, Lib.hid (Below.refl _ _)⟩
            case round =>
              obtain ⟨k, hk, rfl, rfl, HW⟩ := hrel
              by_cases hlt : k < 10
              · have hki : (k : Int) < 10 := by omega
                have hsk := cell_plus (HGS.out _ HW.out k hlt)
                have hnk0 := HGN.out _ HW.out k hlt
                have hnk := cell_plus hnk0
                obtain ⟨hb1, hb2⟩ := worstK_bd S C k
                have HBE : Hid (worstK S C (k + 1) = if better S C k (worstK S C k) = true then (k : Int) else worstK S C k) := Lib.hid rfl
                have HBD : Hid (better S C k (worstK S C k) = (decide (0 < C k) && (decide (worstK S C k < 0) || decide (S (worstK S C k).toNat * C k < S k * C (worstK S C k).toNat)))) := Lib.hid rfl
                obtain ⟨hS1, hS2⟩ := HTB.out k
                obtain ⟨hC1, hC2⟩ := HTC.out k
                have HCS : Hid (∀ j, j < 10 → ∀ e, (plus wr e).cell? ⟨gs, j, none⟩ = some (.int .i64 (S j))) := Lib.hid fun j hj => cell_plus (HGS.out _ HW.out j hj)
                have HCN : Hid (∀ j, j < 10 → ∀ e, (plus wr e).cell? ⟨gn, j, none⟩ = some (.int .i64 (C j))) := Lib.hid fun j hj => cell_plus (HGN.out _ HW.out j hj)
                generalize worstK S C k = bb at hb1 hb2 HBE HBD
                by_cases hc : 0 < C k
                · have hcd : decide (0 < C k) = true := by simpa using hc
                  by_cases hbn : bb < 0
                  · have hbd : decide (bb < 0) = true := by simpa using hbn
                    have HE : Hid (worstK S C (k + 1) = (k : Int)) := Lib.hid (by rw [HBE.out, HBD.out, hcd, hbd]; rfl)
                    generalize C k = ck at hnk hnk0 hc hcd
                    generalize S k = sk at hsk
                    clear hS1 hS2 hC1 hC2
                    go_wp2
                    refine wp_region_plus (by kernel_rfl) (by kernel_rfl) ?_
                    repeat (go_big_quiet_step ((fail)))
                    refine wpQuiet_nil ?_
                    intro wq hwq
                    replace hwq := below_of_plus hwq
                    have HW2 := Lib.hid (below_next0 HW.out hwq)
                    clear hwq
                    go_wp2
                    go_roundw
                    case rel => exact ⟨k + 1, by omega, by go_num, by rw [HE.out], HW2⟩
                    case measure => simp [intOf]; omega
                  · have hbd : decide (bb < 0) = false := by simpa using hbn
                    obtain ⟨j, rfl⟩ := Int.eq_ofNat_of_zero_le (show 0 ≤ bb by omega)
                    have hj : j < 10 := by omega
                    have hji : (j : Int) < 10 := by omega
                    have hjt : ((j : Int)).toNat = j := by omega
                    have hsj := HCS.out j hj; have hnj := HCN.out j hj
                    rw [hcd, hbd, hjt] at HBD
                    obtain ⟨hS3, hS4⟩ := HTB.out j
                    obtain ⟨hC3, hC4⟩ := HTC.out j
                    have hm1 : 0 ≤ S k * C j := Int.mul_nonneg hS1 hC3
                    have hm2 : S k * C j ≤ 1000000 * 100 := Int.mul_le_mul (by omega) (by omega) hC3 (by omega)
                    have hm3 : 0 ≤ S j * C k := Int.mul_nonneg hS3 hC1
                    have hm4 : S j * C k ≤ 1000000 * 100 := Int.mul_le_mul (by omega) (by omega) hC1 (by omega)
                    have HE1 : Hid (S j * C k < S k * C j → worstK S C (k + 1) = (k : Int)) := Lib.hid (fun h => by rw [HBE.out, HBD.out, decide_eq_true h]; rfl)
                    have HE2 : Hid (¬ S j * C k < S k * C j → worstK S C (k + 1) = (j : Int)) := Lib.hid (fun h => by rw [HBE.out, HBD.out, decide_eq_false h]; rfl)
                    generalize C k = ck at hnk hnk0 hc hcd hm3 hm4 HE1 HE2
                    generalize S k = sk at hsk hm1 hm2 HE1 HE2
                    generalize C j = cj at hnj hm1 hm2 HE1 HE2
                    generalize S j = sj at hsj hm3 hm4 HE1 HE2
                    clear hS1 hS2 hC1 hC2 hS3 hS4 hC3 hC4
                    have hw1 : wrap64 (sk * cj) = sk * cj := wrap64_fit (by omega)
                    have hw2 : wrap64 (sj * ck) = sj * ck := wrap64_fit (by omega)
                    by_cases hlt2 : sj * ck < sk * cj
                    · have HE := Lib.hid (HE1.out hlt2)
                      have hd2 : decide (sj * ck < sk * cj) = true := by simpa using hlt2
                      go_wp2
                      refine wp_region_plus (by kernel_rfl) (by kernel_rfl) ?_
                      repeat (go_big_quiet_step ((fail)))
                      refine wpQuiet_nil ?_
                      intro wq hwq
                      replace hwq := below_of_plus hwq
                      have HW2 := Lib.hid (below_next0 HW.out hwq)
                      clear hwq
                      go_wp2
                      go_roundw
                      case rel => exact ⟨k + 1, by omega, by go_num, by rw [HE.out], HW2⟩
                      case measure => simp [intOf]; omega
                    · have HE := Lib.hid (HE2.out (by omega))
                      have hd2 : decide (sj * ck < sk * cj) = false := by simpa using hlt2
                      go_wp2
                      refine wp_region_plus (by kernel_rfl) (by kernel_rfl) ?_
                      repeat (go_big_quiet_step ((fail)))
                      refine wpQuiet_nil ?_
                      intro wq hwq
                      replace hwq := below_of_plus hwq
                      have HW2 := Lib.hid (below_next0 HW.out hwq)
                      clear hwq
                      go_wp2
                      go_roundw
                      case rel => exact ⟨k + 1, by omega, by go_num, by rw [HE.out], HW2⟩
                      case measure => simp [intOf]; omega
                · have hcd : decide (0 < C k) = false := by simpa using hc
                  have HE : Hid (worstK S C (k + 1) = bb) := Lib.hid (by rw [HBE.out, HBD.out, hcd]; rfl)
                  generalize C k = ck at hnk hnk0 hc hcd
                  generalize S k = sk at hsk
                  clear hS1 hS2 hC1 hC2
                  go_wp2
                  refine wp_region_plus (by kernel_rfl) (by kernel_rfl) ?_
                  repeat (go_big_quiet_step ((fail)))
                  refine wpQuiet_nil ?_
                  intro wq hwq
                  replace hwq := below_of_plus hwq
                  have HW2 := Lib.hid (below_next0 HW.out hwq)
                  clear hwq
                  go_wp2
                  go_roundw
                  case rel => exact ⟨k + 1, by omega, by go_num, by rw [HE.out], HW2⟩
                  case measure => simp [intOf]; omega
              · have hkn : k = 10 := by omega
                subst hkn
                go_wp2
                go_ret2
                exact ⟨by rw [E.out]; rfl, below_next0 HB.out HW.out⟩
      · have HNE : Hid ((w1.heap.size + 1) ≠ (w1.heap.size)) := Lib.hid (by omega)
        have HLOS : Hid (w.heap.size ≤ (w1.heap.size + 1)) := Lib.hid (by have := HB1.out.size; omega)
        have HLON : Hid (w.heap.size ≤ (w1.heap.size)) := Lib.hid (by have := HB1.out.size; omega)
        have HS0 : Hid (OwI ((w1.drew.alloc (.cells M 2)).alloc (.cells M 2)) w.heap.size (.slice (some ⟨(w1.heap.size + 1), 0, none⟩) 10 10) (accL Trip.late ts 0)) := Lib.hid (by unfold OwI; rw [accL_len, accL_zero]; simpa using HG2.out)
        have HN0 : Hid (OwI ((w1.drew.alloc (.cells M 2)).alloc (.cells M 2)) w.heap.size (.slice (some ⟨(w1.heap.size), 0, none⟩) 10 10) (accL (fun _ => 1) ts 0)) := Lib.hid (by unfold OwI; rw [accL_len, accL_zero]; simpa using HG1.out)
        go_wp2
        generalize w1.heap.size + 1 = gs at HNE HLOS HS0 ⊢
        generalize w1.heap.size = gn at HNE HLON HN0 ⊢
        clear HO HG1 HG2
        go_loopw [21] (fun i wr => ∃ k : Nat, k ≤ ts.length ∧ i = .int .i64 (k : Int) ∧ Hid (OwI wr w.heap.size (.slice (some ⟨gs, 0, none⟩) 10 10) (accL Trip.late ts k)) ∧ Hid (OwI wr w.heap.size (.slice (some ⟨gn, 0, none⟩) 10 10) (accL (fun _ => 1) ts k)) ∧ Hid (Below w.heap.size w wr)) (fun i _ => ts.length - (intOf i).toNat)
        case atStart => exact ⟨0, Nat.zero_le _, rfl, HS0, HN0, HBW⟩
        case round =>
          obtain ⟨k, hk, rfl, HS, HN, HB⟩ := hrel
          by_cases hlt : k < ts.length
          · have hki : (k : Int) < (ts.length : Int) := by omega
            obtain ⟨b, o, rfl, hbs, hc0, hc1, hc2⟩ := HA.out k hlt
            have hx0 := (HB.out.cell (p := ⟨b, o + k * 3, none⟩) hbs).trans hc0
            have hx1 := (HB.out.cell (p := ⟨b, o + k * 3 + 1, none⟩) hbs).trans hc1
            have hx2 := (HB.out.cell (p := ⟨b, o + k * 3 + 2, none⟩) hbs).trans hc2
            obtain ⟨h, hh, hto⟩ := HTO.out k hlt
            have HLT := Lib.hid fun W => delay_any ts[k].to ts[k].due ts[k].came W (HALL.out k hlt)
            have hk' : Trip.late ⟨ts[k].to, ts[k].due, ts[k].came⟩ = ts[k].late := rfl
            rw [hk', hto] at HLT
            rw [hto] at hx0
            have HES := Lib.hid (accL_set (f := Trip.late) (trA_at hlt) hto _ rfl)
            have HEN := Lib.hid (accL_set (f := fun _ => 1) (trA_at hlt) hto _ rfl)
            have hlb := HLB.out h k hk
            have hcb := HCB.out h k hk
            have hxb := Trip.late_bd (HALL.out k hlt)
            have hls := accL_len Trip.late ts k
            have hln := accL_len (fun _ => 1) ts k
            have hs1 : wr.cell? ⟨gs, h, none⟩ = some (.int .i64 (accF Trip.late ts k h)) := by
              rw [OwI.cell (c := 10) (xs := accL Trip.late ts k) (by rw [hls]; exact HS.out) (k := h) (by rw [hls]; exact hh), accL_get]
            have hn1 : wr.cell? ⟨gn, h, none⟩ = some (.int .i64 (accF (fun _ => 1) ts k h)) := by
              rw [OwI.cell (c := 10) (xs := accL (fun _ => 1) ts k) (by rw [hln]; exact HN.out) (k := h) (by rw [hln]; exact hh), accL_get]
            have hfs := OwI.free (c := 10) (xs := accL Trip.late ts k) (by rw [hls]; exact HS.out) h
            have hfn := OwI.free (c := 10) (xs := accL (fun _ => 1) ts k) (by rw [hln]; exact HN.out) h
            have HGSL : Hid (gs < wr.heap.size) := Lib.hid (HS.out.lt gs rfl).2
            have HGNL : Hid (gn < wr.heap.size) := Lib.hid (HN.out.lt gn rfl).2
            have HTW : Hid (∀ (W : World), Below wr.heap.size wr W → OwI ((W.setCell ⟨gs, h, none⟩ (.int .i64 (accF Trip.late ts k h + ts[k].late))).setCell ⟨gn, h, none⟩ (.int .i64 (accF (fun _ => 1) ts k h + 1))) w.heap.size (.slice (some ⟨gs, 0, none⟩) 10 10) (accL Trip.late ts (k + 1)) ∧ OwI ((W.setCell ⟨gs, h, none⟩ (.int .i64 (accF Trip.late ts k h + ts[k].late))).setCell ⟨gn, h, none⟩ (.int .i64 (accF (fun _ => 1) ts k h + 1))) w.heap.size (.slice (some ⟨gn, 0, none⟩) 10 10) (accL (fun _ => 1) ts (k + 1)) ∧ Below w.heap.size w ((W.setCell ⟨gs, h, none⟩ (.int .i64 (accF Trip.late ts k h + ts[k].late))).setCell ⟨gn, h, none⟩ (.int .i64 (accF (fun _ => 1) ts k h + 1)))) := Lib.hid fun W hW => by
              have h1 := two_set (c1 := 10) (c2 := 10) HNE.out (xs := accL Trip.late ts k) (ys := accL (fun _ => 1) ts k) (by rw [hls]; exact HS.out.ex hW) (by rw [hln]; exact HN.out.ex hW) h h (accF Trip.late ts k h + ts[k].late) (accF (fun _ => 1) ts k h + 1)
              rw [HES.out, HEN.out, hls, hln] at h1
              exact ⟨h1.1, h1.2, ((below_next0 HB.out hW).setCell (p := ⟨gs, h, none⟩) HLOS.out _).setCell (p := ⟨gn, h, none⟩) HLON.out _⟩
            generalize accF Trip.late ts k h = x at hs1 HTW hlb
            generalize accF (fun _ => 1) ts k h = y at hn1 HTW hcb
            generalize ts[k].late = l at HLT HTW hxb
            generalize ts[k].due = du at hx1 HLT
            generalize ts[k].came = ca at hx2 HLT
            have HK : Hid (∀ W', Below ((wr.alloc (.cells #[.int .i64 h, .int .i64 du, .int .i64 ca] 26)).drew).heap.size ((wr.alloc (.cells #[.int .i64 h, .int .i64 du, .int .i64 ca] 26)).drew) W' → (W'.cell? ⟨wr.heap.size, 0, none⟩ = some (.int .i64 h) ∧ W'.cell? ⟨gs, h, none⟩ = some (.int .i64 x) ∧ W'.frozen? ⟨gs, h, none⟩ = false ∧ W'.cell? ⟨gn, h, none⟩ = some (.int .i64 y) ∧ W'.frozen? ⟨gn, h, none⟩ = false) ∧ Below wr.heap.size wr W') := Lib.hid fun W' hW => by
              have hB : Below wr.heap.size wr W' := below_next0 (below_alloc wr (.cells #[.int .i64 h, .int .i64 du, .int .i64 ca] 26)).drew hW
              refine ⟨⟨?_, (hB.cell (p := ⟨gs, h, none⟩) HGSL.out).trans hs1, (hB.frozen (p := ⟨gs, h, none⟩) HGSL.out).trans hfs, (hB.cell (p := ⟨gn, h, none⟩) HGNL.out).trans hn1, (hB.frozen (p := ⟨gn, h, none⟩) HGNL.out).trans hfn⟩, hB⟩
              rw [hW.cell (p := ⟨wr.heap.size, 0, none⟩) (by simp)]; simp [go_sem]
            have hbA := below_alloc wr (.cells #[.int .i64 h, .int .i64 du, .int .i64 ca] 26)
            have hs2 := (hbA.cell (p := ⟨gs, h, none⟩) HGSL.out).trans hs1
            have hn2 := (hbA.cell (p := ⟨gn, h, none⟩) HGNL.out).trans hn1
            have hfs2 := (hbA.frozen (p := ⟨gs, h, none⟩) HGSL.out).trans hfs
            have hfn2 := (hbA.frozen (p := ⟨gn, h, none⟩) HGNL.out).trans hfn
            clear hbA
            have hne : ¬ (gs = gn) := HNE.out
            have hne2 : ¬ (gn = gs) := fun h => HNE.out h.symm
            have hgs1 : ¬ (gs = wr.heap.size) := by have := HGSL.out; omega
            have hgs2 : ¬ (wr.heap.size = gs) := fun h => hgs1 h.symm
            have hgn1 : ¬ (gn = wr.heap.size) := by have := HGNL.out; omega
            have hgn2 : ¬ (wr.heap.size = gn) := fun h => hgn1 h.symm
            have hhi : (h : Int) < 10 := by omega
            have hwr : IntKind.i64.wrap (x + l) = x + l := by rw [IntKind.wrap_i64]; omega
            clear hc0 hc1 hc2 hk' hls hln HES HEN hto
            go_wp2
            go_region_with (go_at_call 52; refine (HLT.out _).mono ?_; rintro e w3 ⟨rfl, hb3⟩; obtain ⟨⟨kk0, kk1, kk2, kk3, kk4⟩, hb4⟩ := HK.out _ hb3)
            all_goals
              obtain ⟨hT1, hT2, hT3⟩ := HTW.out w3 hb4
              have HT1 := Lib.hid hT1; have HT2 := Lib.hid hT2; have HT3 := Lib.hid hT3
              clear hT1 hT2 hT3 hb3 hb4
              go_wp2
              go_roundw
              case rel => exact ⟨k + 1, by omega, by go_num, HT1, HT2, HT3⟩
              case measure => simp [intOf]; omega
          · have hkn : k = ts.length := by omega
            subst hkn
            have HTB := Lib.hid fun h => HLB.out h ts.length (Nat.le_refl _)
            have HTC := Lib.hid fun h => HCB.out h ts.length (Nat.le_refl _)
            have HGS : Hid (∀ W, Below wr.heap.size wr W → ∀ h, h < 10 → W.cell? ⟨gs, h, none⟩ = some (.int .i64 (accF Trip.late ts ts.length h))) := Lib.hid fun W hW h hh => by
              have hls := accL_len Trip.late ts ts.length
              rw [OwI.cell (c := 10) (xs := accL Trip.late ts ts.length) (by rw [hls]; exact HS.out.ex hW) (k := h) (by rw [hls]; exact hh), accL_get]
            have HGN : Hid (∀ W, Below wr.heap.size wr W → ∀ h, h < 10 → W.cell? ⟨gn, h, none⟩ = some (.int .i64 (accF (fun _ => 1) ts ts.length h))) := Lib.hid fun W hW h hh => by
              have hls := accL_len (fun _ => 1) ts ts.length
              rw [OwI.cell (c := 10) (xs := accL (fun _ => 1) ts ts.length) (by rw [hls]; exact HN.out.ex hW) (k := h) (by rw [hls]; exact hh), accL_get]
            generalize accF Trip.late ts ts.length = S at HTB HGS E
            generalize accF (fun _ => 1) ts ts.length = C at HTC HGN E
            obtain ⟨wA, hwA⟩ : ∃ wA : World, wA = wr := ⟨_, rfl⟩
            rw [← hwA] at HGS HGN HB ⊢
            clear hwA HS HN
            go_wp2
            go_loopw [7, 44] (fun bst i wr => ∃ k : Nat, k ≤ 10 ∧ i = .int .i64 (k : Int) ∧ bst = .int .i64 (worstK S C k) ∧ Hid (Below wA.heap.size wA wr)) (fun _ i _ => 10 - (intOf i).toNat)
            case atStart => exact ⟨0, by omega, rfl, rfl, Lib.hid (Below.refl _ _)⟩
            case round =>
              obtain ⟨k, hk, rfl, rfl, HW⟩ := hrel
              by_cases hlt : k < 10
              · have hki : (k : Int) < 10 := by omega
                have hsk := cell_plus (HGS.out _ HW.out k hlt)
                have hnk0 := HGN.out _ HW.out k hlt
                have hnk := cell_plus hnk0
                obtain ⟨hb1, hb2⟩ := worstK_bd S C k
                have HBE : Hid (worstK S C (k + 1) = if better S C k (worstK S C k) = true then (k : Int) else worstK S C k) := Lib.hid rfl
                have HBD : Hid (better S C k (worstK S C k) = (decide (0 < C k) && (decide (worstK S C k < 0) || decide (S (worstK S C k).toNat * C k < S k * C (worstK S C k).toNat)))) := Lib.hid rfl
                obtain ⟨hS1, hS2⟩ := HTB.out k
                obtain ⟨hC1, hC2⟩ := HTC.out k
                have HCS : Hid (∀ j, j < 10 → ∀ e, (plus wr e).cell? ⟨gs, j, none⟩ = some (.int .i64 (S j))) := Lib.hid fun j hj => cell_plus (HGS.out _ HW.out j hj)
                have HCN : Hid (∀ j, j < 10 → ∀ e, (plus wr e).cell? ⟨gn, j, none⟩ = some (.int .i64 (C j))) := Lib.hid fun j hj => cell_plus (HGN.out _ HW.out j hj)
                generalize worstK S C k = bb at hb1 hb2 HBE HBD
                by_cases hc : 0 < C k
                · have hcd : decide (0 < C k) = true := by simpa using hc
                  by_cases hbn : bb < 0
                  · have hbd : decide (bb < 0) = true := by simpa using hbn
                    have HE : Hid (worstK S C (k + 1) = (k : Int)) := Lib.hid (by rw [HBE.out, HBD.out, hcd, hbd]; rfl)
                    generalize C k = ck at hnk hnk0 hc hcd
                    generalize S k = sk at hsk
                    clear hS1 hS2 hC1 hC2
                    go_wp2
                    refine wp_region_plus (by kernel_rfl) (by kernel_rfl) ?_
                    repeat (go_big_quiet_step ((fail)))
                    refine wpQuiet_nil ?_
                    intro wq hwq
                    replace hwq := below_of_plus hwq
                    have HW2 := Lib.hid (below_next0 HW.out hwq)
                    clear hwq
                    go_wp2
                    go_roundw
                    case rel => exact ⟨k + 1, by omega, by go_num, by rw [HE.out], HW2⟩
                    case measure => simp [intOf]; omega
                  · have hbd : decide (bb < 0) = false := by simpa using hbn
                    obtain ⟨j, rfl⟩ := Int.eq_ofNat_of_zero_le (show 0 ≤ bb by omega)
                    have hj : j < 10 := by omega
                    have hji : (j : Int) < 10 := by omega
                    have hjt : ((j : Int)).toNat = j := by omega
                    have hsj := HCS.out j hj; have hnj := HCN.out j hj
                    rw [hcd, hbd, hjt] at HBD
                    obtain ⟨hS3, hS4⟩ := HTB.out j
                    obtain ⟨hC3, hC4⟩ := HTC.out j
                    have hm1 : 0 ≤ S k * C j := Int.mul_nonneg hS1 hC3
                    have hm2 : S k * C j ≤ 1000000 * 100 := Int.mul_le_mul (by omega) (by omega) hC3 (by omega)
                    have hm3 : 0 ≤ S j * C k := Int.mul_nonneg hS3 hC1
                    have hm4 : S j * C k ≤ 1000000 * 100 := Int.mul_le_mul (by omega) (by omega) hC1 (by omega)
                    have HE1 : Hid (S j * C k < S k * C j → worstK S C (k + 1) = (k : Int)) := Lib.hid (fun h => by rw [HBE.out, HBD.out, decide_eq_true h]; rfl)
                    have HE2 : Hid (¬ S j * C k < S k * C j → worstK S C (k + 1) = (j : Int)) := Lib.hid (fun h => by rw [HBE.out, HBD.out, decide_eq_false h]; rfl)
                    generalize C k = ck at hnk hnk0 hc hcd hm3 hm4 HE1 HE2
                    generalize S k = sk at hsk hm1 hm2 HE1 HE2
                    generalize C j = cj at hnj hm1 hm2 HE1 HE2
                    generalize S j = sj at hsj hm3 hm4 HE1 HE2
                    clear hS1 hS2 hC1 hC2 hS3 hS4 hC3 hC4
                    have hw1 : wrap64 (sk * cj) = sk * cj := wrap64_fit (by omega)
                    have hw2 : wrap64 (sj * ck) = sj * ck := wrap64_fit (by omega)
                    by_cases hlt2 : sj * ck < sk * cj
                    · have HE := Lib.hid (HE1.out hlt2)
                      have hd2 : decide (sj * ck < sk * cj) = true := by simpa using hlt2
                      go_wp2
                      refine wp_region_plus (by kernel_rfl) (by kernel_rfl) ?_
                      repeat (go_big_quiet_step ((fail)))
                      refine wpQuiet_nil ?_
                      intro wq hwq
                      replace hwq := below_of_plus hwq
                      have HW2 := Lib.hid (below_next0 HW.out hwq)
                      clear hwq
                      go_wp2
                      go_roundw
                      case rel => exact ⟨k + 1, by omega, by go_num, by rw [HE.out], HW2⟩
                      case measure => simp [intOf]; omega
                    · have HE := Lib.hid (HE2.out (by omega))
                      have hd2 : decide (sj * ck < sk * cj) = false := by simpa using hlt2
                      go_wp2
                      refine wp_region_plus (by kernel_rfl) (by kernel_rfl) ?_
                      repeat (go_big_quiet_step ((fail)))
                      refine wpQuiet_nil ?_
                      intro wq hwq
                      replace hwq := below_of_plus hwq
                      have HW2 := Lib.hid (below_next0 HW.out hwq)
                      clear hwq
                      go_wp2
                      go_roundw
                      case rel => exact ⟨k + 1, by omega, by go_num, by rw [HE.out], HW2⟩
                      case measure => simp [intOf]; omega
                · have hcd : decide (0 < C k) = false := by simpa using hc
                  have HE : Hid (worstK S C (k + 1) = bb) := Lib.hid (by rw [HBE.out, HBD.out, hcd]; rfl)
                  generalize C k = ck at hnk hnk0 hc hcd
                  generalize S k = sk at hsk
                  clear hS1 hS2 hC1 hC2
                  go_wp2
                  refine wp_region_plus (by kernel_rfl) (by kernel_rfl) ?_
                  repeat (go_big_quiet_step ((fail)))
                  refine wpQuiet_nil ?_
                  intro wq hwq
                  replace hwq := below_of_plus hwq
                  have HW2 := Lib.hid (below_next0 HW.out hwq)
                  clear hwq
                  go_wp2
                  go_roundw
                  case rel => exact ⟨k + 1, by omega, by go_num, by rw [HE.out], HW2⟩
                  case measure => simp [intOf]; omega
              · have hkn : k = 10 := by omega
                subst hkn
                go_wp2
                go_ret2
                exact ⟨by rw [E.out]; rfl, below_next0 HB.out HW.out⟩
end Go.Proofs.Ythpijecjifmnbaa
