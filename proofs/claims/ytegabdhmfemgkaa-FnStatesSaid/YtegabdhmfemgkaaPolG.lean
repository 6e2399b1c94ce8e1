/-
Rooms of states of the reference: l12Room, l12Places, ValidPlaces, l12Code. Condition: the slices read as lists; valid ways.
-/
import Derived.Test.YtegabdhmfemgkaaPolF
import Derived.Test.YtegabdhmfemgkaaOwn
namespace Go.Proofs.Ytegabdhmfemgkaa
open Go.RowKit
set_option linter.unusedVariables false

def roomL (halls : List Int) (ways : List (List Int)) (pl : List Int) (n : Nat) : List Int := (List.range halls.length).map fun h => halls.getD h 0 - cntF ways pl n h
theorem roomL_len (halls : List Int) (ways : List (List Int)) (pl : List Int) (n : Nat) : (roomL halls ways pl n).length = halls.length := by simp [roomL]
theorem roomL_zero (halls : List Int) (ways : List (List Int)) (pl : List Int) : roomL halls ways pl 0 = halls := by
  apply List.ext_getElem
  · simp [roomL]
  · intro i h1 h2
    simp [roomL, List.getD_eq_getElem?_getD, h2, cntF]
theorem roomL_get {halls : List Int} {ways : List (List Int)} {pl : List Int} {n h : Nat} (hh : h < halls.length) : (roomL halls ways pl n)[h]'(by rw [roomL_len]; exact hh) = halls[h] - cntF ways pl n h := by
  simp [roomL, List.getD_eq_getElem?_getD, hh]
theorem roomL_no {halls : List Int} {ways : List (List Int)} {pl : List Int} {n : Nat} (h : hallK ways pl n < 0) : roomL halls ways pl (n + 1) = roomL halls ways pl n := by
  unfold roomL
  apply List.map_congr_left
  intro a _
  show _ - (cntF ways pl n a + _) = _
  rw [if_neg (by omega)]; omega
theorem roomL_yes {halls : List Int} {h : Nat} {ways : List (List Int)} {pl : List Int} {n : Nat} (hh : hallK ways pl n = (h : Int)) (hl : h < halls.length) (u : Int) (hu : u = halls[h] - cntF ways pl n h - 1) : (roomL halls ways pl n).set h u = roomL halls ways pl (n + 1) := by
  apply List.ext_getElem
  · simp [roomL]
  · intro i h1 h2
    rw [List.getElem_set]
    simp only [roomL, List.getElem_map, List.getElem_range]
    show _ = _ - (cntF ways pl n i + _)
    by_cases e : h = i
    · subst e
      rw [if_pos rfl, if_pos hh, hu]
      simp only [List.getD_eq_getElem?_getD, List.getElem?_eq_getElem hl, Option.getD_some]
      omega
    · rw [if_neg e, if_neg (by omega)]; omega

set_option maxHeartbeats 1000000 in
theorem l12Room_any (v u r : Value) (halls : List Int) (ways : List (List Int)) (pl : List Int) (w : World) (hv : SlI w v halls) (hu : SlII w u ways) (hr : SlI w r pl) (hlen : pl.length = ways.length) (h1 : 1 ≤ halls.length) (h6 : halls.length ≤ 6) (h4 : ways.length ≤ 4) (hbd : ∀ x ∈ halls, 1 ≤ x ∧ x ≤ 3) (hway : ∀ way ∈ ways, wayOk halls.length way = true) :
    Calls Try.prog 103 #[v, u, r] w fun e w' => ∃ A c, e = .returned (.slice A halls.length c) ∧ OwI w' w.heap.size (.slice A halls.length c) (roomL halls ways pl ways.length) ∧ Below w.heap.size w w' := by
  have HV := Lib.hid hv
  obtain ⟨A, d, rfl, hla, ha⟩ := hv.op
  obtain ⟨B, f, rfl, hlb, hat⟩ := hu.op
  obtain ⟨R, g, rfl, hlr, hrt⟩ := hr.op
  have HAT := Lib.hid hat; have HRT := Lib.hid hrt
  have HLEN := Lib.hid hlen
  have HKI : Hid (∀ c, c < ways.length → hallK ways pl c = -1 ∨ ∃ q : Nat, q < halls.length ∧ hallK ways pl c = (q : Int)) := Lib.hid fun c hc => hallK_in hway pl hc
  have HBD : Hid (∀ q (h : q < halls.length), 1 ≤ halls[q] ∧ halls[q] ≤ 3) := Lib.hid fun q h => hbd _ (List.getElem_mem h)
  have HWN : Hid (∀ k (h : k < ways.length) q (hq : q < ways[k].length), ∃ n : Nat, n < halls.length ∧ ways[k][q] = (n : Int)) := Lib.hid fun k h q hq => by
    have := (wayOk_at (hway _ (List.getElem_mem h))).2 _ (List.getElem_mem hq)
    exact ⟨(ways[k][q]).toNat, by omega, by omega⟩
  have HWL : Hid (∀ k (h : k < ways.length), 1 ≤ ways[k].length ∧ ways[k].length ≤ 5) := Lib.hid fun k h => (wayOk_at (hway _ (List.getElem_mem h))).1
  rw [hlen]
  rw [hlen] at hlr
  clear hv hu hr ha hat hrt hway hbd hlen
  go_enter Try.func103, Try.ntmps103
  go_wp2_with fail
  refine (l00Own_any _ halls _ HV.out (by omega)).mono ?_
  rintro e w1 ⟨A1, c1, rfl, hown, hb1⟩
  rcases Ow.form hown with ⟨_, h0, _⟩ | ⟨gr, c4, hA2, hlo, hltg, hcl⟩
  · omega
  · injection hA2 with hA2 _ hc2
    subst hA2 hc2
    have HO0 : Hid (OwI w1 w.heap.size (.slice (some ⟨gr, 0, none⟩) halls.length c1) (roomL halls ways pl 0)) := Lib.hid (by rw [roomL_zero]; exact hown)
    have HB1 := Lib.hid hb1
    clear hown hb1 hcl
    go_wp2
    go_loopw [8] (fun i wr => ∃ k : Nat, k ≤ ways.length ∧ i = .int .i64 k ∧ OwI wr w.heap.size (.slice (some ⟨gr, 0, none⟩) halls.length c1) (roomL halls ways pl k) ∧ Below w.heap.size w wr) (fun i _ => ways.length - (intOf i).toNat)
    case atStart => exact ⟨0, Nat.zero_le _, rfl, HO0.out, HB1.out⟩
    case round =>
      obtain ⟨k, hk, rfl, hown, hb⟩ := hrel
      have HOW := Lib.hid hown; have HBB := Lib.hid hb
      by_cases hkw : k < ways.length
      · have hlt : k < pl.length := by rw [HLEN.out]; exact hkw
        have hki : (k : Int) < (ways.length : Int) := by omega
        obtain ⟨b, o, rfl, hbs, hcc⟩ := HRT.out k hlt
        have hp := cell_plus ((hb.cell (p := ⟨b, o + k, none⟩) hbs).trans (hcc k hlt))
        obtain ⟨bw, ow, A', c', rfl, hbsw, hcell, hrow⟩ := HAT.out k hkw
        have hpw := cell_plus ((hb.cell (p := ⟨bw, ow + k, none⟩) hbsw).trans hcell)
        have HCP := Lib.hid (hcc k hlt); have HCW := Lib.hid hcell
        have HX : Hid (pl[k] = plc pl k) := Lib.hid (by simp [plc, List.getD_eq_getElem?_getD, hlt])
        rw [HX.out] at hp HCP
        have HHK := Lib.hid (hallK_at pl hkw)
        have hwl := HWL.out k hkw
        obtain ⟨A2, c2, hveq, hla2, ha2⟩ := hrow.op
        injection hveq with hA2 hn2 hc2
        subst hA2 hc2
        clear hn2
        have HW2 := Lib.hid ha2
        have HHP : Hid (hallP ways[k] (plc pl k) = if plc pl k < 1 ∨ (ways[k].length : Int) < plc pl k then -1 else ways[k].getD (plc pl k - 1).toNat 0) := Lib.hid rfl
        rw [HHK.out] at HHP
        have HGD : Hid (∀ q (h : q < ways[k].length), ways[k].getD q 0 = ways[k][q]) := Lib.hid fun q h => by simp [List.getD_eq_getElem?_getD, h]
        have HIN := Lib.hid (HWN.out k hkw)
        generalize ways[k] = way at hpw HCW hwl HW2 HHP HGD hla2 HIN
        generalize plc pl k = p at hp HCP HHP
        have HLI := Lib.hid (fun e => l00In_any p 1 (way.length : Int) (plus wr e))
        clear hown hb hcc hcell hrow ha2
        cases hin : inB p 1 (way.length : Int) with
        | false =>
          have hbad : p < 1 ∨ (way.length : Int) < p := by
            rcases Int.lt_or_le p 1 with h | h
            · exact .inl h
            · rcases Int.lt_or_le (way.length : Int) p with h2 | h2
              · exact .inr h2
              · have := inB_iff.2 ⟨h, h2⟩; rw [this] at hin; cases hin
          have HE : Hid (roomL halls ways pl (k + 1) = roomL halls ways pl k) := Lib.hid (roomL_no (by rw [HHP.out, if_pos hbad]; omega))
          rw [hin] at HLI
          clear hin hbad
          go_wp2
          refine wp_region_plus (by kernel_rfl) (by kernel_rfl) ?_
          repeat (go_big_quiet_step (((go_at_call 90; exact plus_same (HLI.out _)))))
          refine wpQuiet_nil ?_
          intro wq hwq
          replace hwq := below_of_plus hwq
          have HB3 := Lib.hid (below_next0 HBB.out hwq)
          have HO3 := Lib.hid (HOW.out.ex hwq)
          clear hwq
          go_wp2
          go_roundw
          case rel => exact ⟨k + 1, by omega, by go_num, by rw [HE.out]; exact HO3.out, HB3.out⟩
          case measure => simp [intOf]; omega
        | true =>
          obtain ⟨hp1, hp2⟩ := inB_iff.1 hin
          rw [if_neg (by omega)] at HHP
          obtain ⟨q, hq⟩ := Int.eq_ofNat_of_zero_le (show (0 : Int) ≤ p - 1 by omega)
          have hpq : p = (q : Int) + 1 := by omega
          subst hpq
          have hql : q < way.length := by omega
          have hqt : ((q : Int) + 1 - 1).toNat = q := by omega
          rw [hqt, HGD.out q hql] at HHP
          obtain ⟨h, hh, hhk⟩ := HIN.out q hql
          obtain ⟨b2, o2, rfl, hbs2, hcc2⟩ := HW2.out q hql
          have HCQ := Lib.hid (hcc2 q hql)
          rw [hhk] at HCQ HHP
          have hrl := roomL_get (ways := ways) (pl := pl) (n := k) hh
          have hcb := cntF_bd ways pl k h
          have hbd := HBD.out h hh
          have HE := Lib.hid (roomL_yes HHP.out hh _ rfl)
          have hll := roomL_len halls ways pl k
          rw [hin] at HLI
          clear hin hcc2 hhk
          go_wp2
          refine wp_region_plus (by kernel_rfl) (by kernel_rfl) ?_
          repeat (go_big_quiet_step (((go_at_call 90; exact plus_same (HLI.out _)))))
          refine wpQuiet_nil ?_
          intro wq hwq
          replace hwq := below_of_plus hwq
          have HB3 := Lib.hid (below_next0 HBB.out hwq)
          have hO3 := HOW.out.ex hwq
          have HO3 := Lib.hid hO3
          have hc1 := (HB3.out.cell (p := ⟨b, o + k, none⟩) hbs).trans HCP.out
          have hc2 := (HB3.out.cell (p := ⟨bw, ow + k, none⟩) hbsw).trans HCW.out
          have hc3 := (HB3.out.cell (p := ⟨b2, o2 + q, none⟩) hbs2).trans HCQ.out
          have hc4 : wq.cell? ⟨gr, h, none⟩ = some (.int .i64 (halls[h] - cntF ways pl k h)) := by
            have hx := OwI.cell (g := gr) (c := c1) (xs := roomL halls ways pl k) (by rw [hll]; exact hO3) (k := h) (by rw [hll]; exact hh)
            rw [hx, hrl]
          have hfz : wq.frozen? ⟨gr, h, none⟩ = false := OwI.free (g := gr) (c := c1) (xs := roomL halls ways pl k) (by rw [hll]; exact hO3) h
          have HS : Hid (OwI (wq.drew.setCell ⟨gr, h, none⟩ (.int .i64 (halls[h] - cntF ways pl k h - 1))) w.heap.size (.slice (some ⟨gr, 0, none⟩) halls.length c1) (roomL halls ways pl (k + 1))) := Lib.hid (by
            have h1 := OwI.set (g := gr) (c := c1) (xs := roomL halls ways pl k) (by rw [hll]; exact (hO3.ex ((Below.refl _ _).drew))) h (halls[h] - cntF ways pl k h - 1)
            rw [HE.out, hll] at h1; exact h1)
          have HB4 : Hid (Below w.heap.size w (wq.drew.setCell ⟨gr, h, none⟩ (.int .i64 (halls[h] - cntF ways pl k h - 1)))) := Lib.hid (HB3.out.drew.setCell (p := ⟨gr, h, none⟩) hlo _)
          have hhi : (h : Int) < (halls.length : Int) := by omega
          have hqi : (q : Int) < (way.length : Int) := by omega
          have hz : (q : Int) + 1 - 1 = (q : Int) := by omega
          clear hwq hO3 hll hrl
          have hy : -10 ≤ halls[h] - cntF ways pl k h ∧ halls[h] - cntF ways pl k h ≤ 10 := by omega
          generalize halls[h] - cntF ways pl k h = y at hc4 HS HB4 HE hy
          go_wp2
          go_region
          go_wp2
          go_roundw
          case rel => exact ⟨k + 1, by omega, by go_num, HS.out, HB4.out⟩
          case measure => simp [intOf]; omega
      · have hkn : k = ways.length := by omega
        subst hkn
        go_wp2
        go_ret
        exact ⟨_, _, rfl, hown, hb⟩

theorem stOk_iff {halls : List Int} {ways : List (List Int)} {pl : List Int} (h : ∀ k (hk : k < (roomL halls ways pl ways.length).length), 0 ≤ (roomL halls ways pl ways.length)[k]) : stOk halls ways pl = true := stOk_yes fun k hk => by
  have := h k (by rw [roomL_len]; exact hk)
  rw [roomL_get hk] at this; omega
theorem stOk_iffN {halls : List Int} {ways : List (List Int)} {pl : List Int} {k : Nat} (hk : k < (roomL halls ways pl ways.length).length) (h : (roomL halls ways pl ways.length)[k] < 0) : stOk halls ways pl = false := by
  have hk2 : k < halls.length := by rw [roomL_len] at hk; exact hk
  exact stOk_no hk2 (by rw [roomL_get hk2] at h; omega)

set_option maxHeartbeats 1000000 in
theorem l12Places_any (v u r : Value) (halls : List Int) (ways : List (List Int)) (pl : List Int) (w : World) (hv : SlI w v halls) (hu : SlII w u ways) (hr : SlI w r pl) (ht : travOk halls ways = true) :
    Calls Try.prog 82 #[v, u, r] w fun e w' => e = .returned (.bool (plOk halls ways pl)) ∧ Below w.heap.size w w' := by
  obtain ⟨⟨h1, h6⟩, hbd, h4, hway⟩ := travOk_at ht
  have HROOM := Lib.hid fun (W : World) (hW : Below w.heap.size w W) (hlen : pl.length = ways.length) => l12Room_any v u r halls ways pl W (hv.ex hW) (hu.ex hW) (hr.ex hW) hlen h1 h6 h4 hbd hway
  have HV := Lib.hid hv
  obtain ⟨A, d, rfl, hla, ha⟩ := hv.op
  obtain ⟨B, f, rfl, hlb, hat⟩ := hu.op
  obtain ⟨R, g, rfl, hlr, hrt⟩ := hr.op
  have HAT := Lib.hid hat; have HRT := Lib.hid hrt
  have HWL : Hid (∀ k (h : k < ways.length), 1 ≤ ways[k].length ∧ ways[k].length ≤ 5) := Lib.hid fun k h => (wayOk_at (hway _ (List.getElem_mem h))).1
  have HPO : Hid (plOk halls ways pl = (decide (pl.length = ways.length) && plFit ways pl && stOk halls ways pl)) := Lib.hid rfl
  clear hv hu hr ha hat hrt hway hbd ht
  by_cases hlen : pl.length = ways.length
  · have HLEN := Lib.hid hlen
    rw [hlen]
    rw [hlen] at hlr HROOM
    rw [decide_eq_true hlen, Bool.true_and] at HPO
    clear hlen
    go_enter Try.func82, Try.ntmps82
    go_wp2
    go_loopw [7] (fun i wr => ∃ k : Nat, k ≤ ways.length ∧ i = .int .i64 k ∧ Hid (∀ j (hj : j < ways.length), j < k → inB (plc pl j) 0 ((ways[j].length : Int) + 1) = true) ∧ Below w.heap.size w wr) (fun i _ => ways.length - (intOf i).toNat)
    case atStart => exact ⟨0, Nat.zero_le _, rfl, Lib.hid (fun j _ h => absurd h (Nat.not_lt_zero _)), Below.refl _ _⟩
    case round =>
      obtain ⟨k, hk, rfl, hall, hb⟩ := hrel
      have HBB := Lib.hid hb
      by_cases hkw : k < ways.length
      · have hlt : k < pl.length := by rw [HLEN.out]; exact hkw
        have hki : (k : Int) < (ways.length : Int) := by omega
        obtain ⟨b, o, rfl, hbs, hcc⟩ := HRT.out k hlt
        have hp := cell_plus ((hb.cell (p := ⟨b, o + k, none⟩) hbs).trans (hcc k hlt))
        obtain ⟨bw, ow, A', c', rfl, hbsw, hcell, hrow⟩ := HAT.out k hkw
        have hpw := cell_plus ((hb.cell (p := ⟨bw, ow + k, none⟩) hbsw).trans hcell)
        have HX : Hid (pl[k] = plc pl k) := Lib.hid (by simp [plc, List.getD_eq_getElem?_getD, hlt])
        rw [HX.out] at hp
        have hwl := HWL.out k hkw
        have HNO := Lib.hid (plFit_no (pl := pl) hkw)
        have HYES : Hid (inB (plc pl k) 0 ((ways[k].length : Int) + 1) = true → ∀ j (hj : j < ways.length), j < k + 1 → inB (plc pl j) 0 ((ways[j].length : Int) + 1) = true) := Lib.hid fun h j hj hjk => by
          by_cases e : j = k
          · subst e; exact h
          · exact hall.out j hj (by omega)
        generalize plc pl k = p at hp HNO HYES
        generalize ways[k].length = L at hpw HNO HYES hwl
        have HLI := Lib.hid (fun e => l00In_any p 0 ((L : Int) + 1) (plus wr e))
        clear hb hcc hcell hrow
        cases hin : inB p 0 ((L : Int) + 1) with
        | false =>
          have HF := Lib.hid (HNO.out hin)
          rw [hin] at HLI
          rw [HF.out] at HPO
          clear hin
          go_wp2
          refine wp_region_plus (by kernel_rfl) (by kernel_rfl) ?_
          repeat (go_big_quiet_step (((go_at_call 90; exact plus_same (HLI.out _)))))
          refine wpQuiet_nil ?_
          intro wq hwq
          replace hwq := below_of_plus hwq
          have HB3 := Lib.hid (below_next0 HBB.out hwq)
          clear hwq
          go_wp2
          go_ret
          exact ⟨ret_bool (by rw [HPO.out]; rfl), HB3.out⟩
        | true =>
          have HO := Lib.hid (HYES.out hin)
          rw [hin] at HLI
          clear hin
          go_wp2
          refine wp_region_plus (by kernel_rfl) (by kernel_rfl) ?_
          repeat (go_big_quiet_step (((go_at_call 90; exact plus_same (HLI.out _)))))
          refine wpQuiet_nil ?_
          intro wq hwq
          replace hwq := below_of_plus hwq
          have HB3 := Lib.hid (below_next0 HBB.out hwq)
          clear hwq
          go_wp2
          go_roundw
          case rel => exact ⟨k + 1, by omega, by go_num, HO, HB3.out⟩
          case measure => simp [intOf]; omega
      · have HFIT := Lib.hid (plFit_yes (fun j hj => hall.out j hj (by omega)))
        rw [HFIT.out] at HPO
        clear hb
        go_wp2_with fail
        refine (HROOM.out _ HBB.out (by first | trivial | exact HLEN.out)).mono ?_
        rintro e w1 ⟨A1, c1, rfl, hown, hb1⟩
        have HB1 := Lib.hid (below_next0 HBB.out hb1)
        have HSL := Lib.hid hown.sl
        have HLL := Lib.hid (roomL_len halls ways pl ways.length)
        have HST := Lib.hid (stOk_iff (halls := halls) (ways := ways) (pl := pl))
        have HSN := Lib.hid (fun k => stOk_iffN (halls := halls) (ways := ways) (pl := pl) (k := k))
        generalize roomL halls ways pl ways.length = rm at HSL HLL HST HSN
        clear hown hb1 HROOM
        obtain ⟨A2, c2, hveq, hla2, ha2⟩ := HSL.out.op
        injection hveq with hA2 hn2 hc2
        subst hA2 hc2
        clear hn2 hla2
        have HA2 := Lib.hid ha2
        clear ha2
        go_wp2
        go_loopw [9] (fun i wr => ∃ k : Nat, k ≤ halls.length ∧ i = .int .i64 k ∧ Hid (∀ j (hj : j < rm.length), j < k → 0 ≤ rm[j]) ∧ w1 = wr) (fun i _ => halls.length - (intOf i).toNat)
        case atStart => exact ⟨0, Nat.zero_le _, rfl, Lib.hid (fun j _ h => absurd h (Nat.not_lt_zero _)), rfl⟩
        case round =>
          obtain ⟨k, hk, rfl, hall2, rfl⟩ := hrel
          by_cases hlt2 : k < halls.length
          · have hki : (k : Int) < (halls.length : Int) := by omega
            have hkr : k < rm.length := by rw [HLL.out]; exact hlt2
            obtain ⟨b, o, rfl, hbs, hcc⟩ := HA2.out k hkr
            have hp := hcc k hkr
            have HNO : Hid (rm[k] < 0 → stOk halls ways pl = false) := Lib.hid (HSN.out k hkr)
            have HYES : Hid (0 ≤ rm[k] → ∀ j (hj : j < rm.length), j < k + 1 → 0 ≤ rm[j]) := Lib.hid fun h j hj hjk => by
              by_cases e : j = k
              · subst e; exact h
              · exact hall2.out j hj (by omega)
            generalize rm[k] = x at hp HNO HYES
            clear hcc hkr
            by_cases hx : x < 0
            · have HF := Lib.hid (HNO.out hx)
              rw [HF.out] at HPO
              go_wp2
              go_ret
              exact ⟨ret_bool (by rw [HPO.out]; rfl), HB1.out⟩
            · have HF := Lib.hid (HYES.out (by omega))
              go_wp2
              go_roundw
              case rel => exact ⟨k + 1, by omega, by go_num, HF, by first | trivial | rfl⟩
              case measure => simp [intOf]; omega
          · have HF := Lib.hid (HST.out (fun j hj => hall2.out j hj (by have := HLL.out; omega)))
            rw [HF.out] at HPO
            go_wp2
            go_ret
            exact ⟨ret_bool (by rw [HPO.out]; rfl), HB1.out⟩
  · have hli : ((pl.length : Int) != (ways.length : Int)) = true := by simp; omega
    rw [decide_eq_false hlen] at HPO
    clear hlen
    go_enter Try.func82, Try.ntmps82
    go_wp2
    go_ret
    exact ⟨ret_bool (by rw [HPO.out]; rfl), Below.refl _ _⟩

set_option maxHeartbeats 1000000 in
theorem specValidPlaces_any (v u r : Value) (halls : List Int) (ways : List (List Int)) (pl : List Int) (w : World) (hv : SlI w v halls) (hu : SlII w u ways) (hr : SlI w r pl) :
    Calls Try.prog 37 #[v, u, r] w fun e w' => e = .returned (.bool (placesOk halls ways pl)) ∧ Below w.heap.size w w' := by
  have HV := Lib.hid hv; have HU := Lib.hid hu; have HR := Lib.hid hr
  clear hv hu hr
  have HP : Hid (placesOk halls ways pl = (travOk halls ways && plOk halls ways pl)) := Lib.hid rfl
  go_enter Try.func37, Try.ntmps37
  go_wp2_with fail
  refine (l12Ok_any _ _ halls ways _ HV.out HU.out).mono ?_
  rintro e w1 ⟨rfl, hb1⟩
  have HB1 := Lib.hid hb1
  clear hb1
  cases ht : travOk halls ways with
  | false =>
    rw [ht] at HP
    go_wp2
    go_ret
    exact ⟨ret_bool HP.out.symm, HB1.out⟩
  | true =>
    rw [ht] at HP
    have HT := Lib.hid ht
    clear ht
    go_wp2_with fail
    refine (l12Places_any _ _ _ halls ways pl _ (HV.out.ex HB1.out) (HU.out.ex HB1.out) (HR.out.ex HB1.out) HT.out).mono ?_
    rintro e w2 ⟨rfl, hb2⟩
    have HB2 := Lib.hid (below_next0 HB1.out hb2)
    clear hb2
    go_wp2
    go_ret
    exact ⟨ret_bool (by rw [HP.out]; simp), HB2.out⟩

set_option maxHeartbeats 1000000 in
theorem l12Code_any (v u r : Value) (halls : List Int) (ways : List (List Int)) (pl : List Int) (w : World) (hv : SlI w v halls) (hu : SlII w u ways) (hr : SlI w r pl) :
    Calls Try.prog 84 #[v, u, r] w fun e w' => e = .returned (.int .i64 (codePl halls ways pl)) ∧ Below w.heap.size w w' := by
  have HV := Lib.hid hv; have HU := Lib.hid hu; have HR := Lib.hid hr
  clear hv hu hr
  have HC : Hid (codePl halls ways pl = if travOk halls ways = true then (if plOk halls ways pl = true then 0 else 2) else 1) := Lib.hid rfl
  go_enter Try.func84, Try.ntmps84
  go_wp2_with fail
  refine (l12Ok_any _ _ halls ways _ HV.out HU.out).mono ?_
  rintro e w1 ⟨rfl, hb1⟩
  have HB1 := Lib.hid hb1
  clear hb1
  cases ht : travOk halls ways with
  | false =>
    rw [ht] at HC
    go_wp2
    go_ret
    exact ⟨ret_int (by rw [HC.out]; rfl), HB1.out⟩
  | true =>
    rw [ht] at HC
    have HT := Lib.hid ht
    clear ht
    go_wp2_with fail
    refine (l12Places_any _ _ _ halls ways pl _ (HV.out.ex HB1.out) (HU.out.ex HB1.out) (HR.out.ex HB1.out) HT.out).mono ?_
    rintro e w2 ⟨rfl, hb2⟩
    have HB2 := Lib.hid (below_next0 HB1.out hb2)
    clear hb2
    cases hp : plOk halls ways pl
    all_goals
      rw [hp] at HC
      go_wp2
      go_ret
      exact ⟨ret_int (by rw [HC.out]; rfl), HB2.out⟩
end Go.Proofs.Ytegabdhmfemgkaa
