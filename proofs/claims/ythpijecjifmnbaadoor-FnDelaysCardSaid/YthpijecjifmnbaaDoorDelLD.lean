/-
DelayAtShare of the program and of the reference. Condition: the slices read as lists.
-/
import Derived.Test.YthpijecjifmnbaaDoorDelK
import Derived.Test.YthpijecjifmnbaaDoorSortedD
namespace Go.Proofs.YthpijecjifmnbaaDoor
open Go.RowKit
set_option linter.unusedVariables false

def dasR (ts : List Trip) (p : Int) : Int × Int :=
  if tripsOk ts = true then (if inB p 1 1000 = true then (if ts.length = 0 then (0, 3) else ((srtI (lates ts)).getD (shareI ts.length p) 0, 0)) else (0, 2)) else (0, 1)
theorem cntW_srt {ts : List Trip} {s : List Int} (h : IsSrt (lates ts) s) (d : Int) : cntW (lates ts) d ts.length = (s.countP (fun x => decide (x ≤ d)) : Nat) := by
  unfold cntW
  rw [List.take_of_length_le (by rw [lates_len]; exact Nat.le_refl _), h.1.countP_eq]

set_option maxHeartbeats 1000000 in
theorem specDas_any (v : Value) (ts : List Trip) (p : Int) (w : World) (hv : SlTrip w v ts) (_ : -9223372036854775808 ≤ p ∧ p ≤ 9223372036854775807) :
    Calls Tryd.prog 11 #[v, .int .i64 p] w fun e w' => e = .returned (.tuple #[.int .i64 (dasR ts p).1, .int .i64 (dasR ts p).2]) ∧ Below w.heap.size w w' := by
  have HS := Lib.hid (l13Some_any v ts w hv)
  have HV := Lib.hid hv
  obtain ⟨A, c, rfl, hla, _⟩ := hv.op
  clear hv
  have HR : Hid (dasR ts p = if tripsOk ts = true then (if inB p 1 1000 = true then (if ts.length = 0 then (0, 3) else ((srtI (lates ts)).getD (shareI ts.length p) 0, 0)) else (0, 2)) else (0, 1)) := Lib.hid rfl
  have HC : Hid (codeSome ts = if tripsOk ts = true then (if ts.length = 0 then 3 else 0) else 1) := Lib.hid rfl
  go_enter Tryd.func11, Tryd.ntmps11
  cases hok : tripsOk ts with
  | false =>
    rw [hok] at HR HC
    have E : Hid (codeSome ts = 1) := Lib.hid (by rw [HC.out]; rfl)
    rw [E.out] at HS
    go_wp2_with (go_at_call 43; refine HS.out.mono ?_; rintro e w' ⟨rfl, rfl⟩)
    go_ret2
    rw [HR.out]
    exact ⟨rfl, Below.refl _ _⟩
  | true =>
    obtain ⟨hl, hall⟩ := tripsOk_at hok
    have HALL := Lib.hid hall; clear hall
    rw [hok] at HR HC
    cases hin : inB p 1 1000 with
    | false =>
      rw [hin] at HR
      by_cases hz : ts.length = 0
      · have E : Hid (codeSome ts = 3) := Lib.hid (by rw [HC.out, if_pos rfl, if_pos hz])
        rw [E.out] at HS
        clear hz
        go_wp2_with (first | (go_at_call 43; refine HS.out.mono ?_; rintro e w' ⟨rfl, rfl⟩) | (go_at_call 44; refine (l00In_any _ _ _ _).mono ?_; rintro e w' ⟨rfl, rfl⟩; rw [hin]))
        go_ret2
        rw [HR.out]
        exact ⟨rfl, Below.refl _ _⟩
      · have E : Hid (codeSome ts = 0) := Lib.hid (by rw [HC.out, if_pos rfl, if_neg hz])
        rw [E.out] at HS
        clear hz
        go_wp2_with (first | (go_at_call 43; refine HS.out.mono ?_; rintro e w' ⟨rfl, rfl⟩) | (go_at_call 44; refine (l00In_any _ _ _ _).mono ?_; rintro e w' ⟨rfl, rfl⟩; rw [hin]))
        go_ret2
        rw [HR.out]
        exact ⟨rfl, Below.refl _ _⟩
    | true =>
      rw [hin] at HR
      by_cases hz : ts.length = 0
      · have E : Hid (codeSome ts = 3) := Lib.hid (by rw [HC.out, if_pos rfl, if_pos hz])
        have ER : Hid (dasR ts p = (0, 3)) := Lib.hid (by rw [HR.out, if_pos rfl, if_pos rfl, if_pos hz])
        rw [E.out] at HS
        clear hz
        go_wp2_with (first | (go_at_call 43; refine HS.out.mono ?_; rintro e w' ⟨rfl, rfl⟩) | (go_at_call 44; refine (l00In_any _ _ _ _).mono ?_; rintro e w' ⟨rfl, rfl⟩; rw [hin]))
        go_ret2
        rw [ER.out]
        exact ⟨rfl, Below.refl _ _⟩
      · have E : Hid (codeSome ts = 0) := Lib.hid (by rw [HC.out, if_pos rfl, if_neg hz])
        have ER : Hid (dasR ts p = ((srtI (lates ts)).getD (shareI ts.length p) 0, 0)) := Lib.hid (by rw [HR.out, if_pos rfl, if_pos rfl, if_neg hz])
        rw [E.out] at HS
        have hb := inB_iff.1 hin
        obtain ⟨hx1, hx2, hx3, hx4, hx5, hx6⟩ := shareI_at hz hb.1 hb.2
        have HX4 : Hid (((p * (ts.length : Int) + 999) / 1000).toNat - 1 = shareI ts.length p) := Lib.hid (by omega)
        generalize hK : shareI ts.length p = K at ER hx1 HX4
        have hn0 : 0 < ts.length := by omega
        clear hz hx2 hx3 hx4 hK
        go_wp2_with fail
        refine HS.out.mono ?_
        rintro e w' ⟨rfl, rfl⟩
        go_wp2_with fail
        refine (l00In_any _ _ _ _).mono ?_
        rintro e w' ⟨rfl, rfl⟩
        rw [hin]
        go_wp2_with fail
        refine (l13Sorted_any _ ts _ HV.out HALL.out hl).mono ?_
        rintro e w2 ⟨A2, c2, s, rfl, hown, hsrt, hb2⟩
        obtain rfl : s = srtI (lates ts) := hsrt.uniq (srtI_is _)
        have hsl : (srtI (lates ts)).length = ts.length := by rw [(srtI_is _).len, lates_len]
        rcases Ow.form hown with ⟨_, h0, _⟩ | ⟨g, c4, hA2, _, hlt, _⟩
        · rw [hsl] at h0; omega
        injection hA2 with hA2 hn2 hc2
        clear hn2
        subst hA2 hc2
        have hcell : w2.cell? ⟨g, K, none⟩ = some (.int .i64 ((srtI (lates ts)).getD K 0)) := by
          have h1 := hown
          rw [← hsl] at h1
          rw [OwI.cell h1 (k := K) (by omega)]
          simp [List.getD_eq_getElem?_getD, hsl, hx1]
        have hKi : (K : Int) < (ts.length : Int) := by omega
        generalize (srtI (lates ts)).getD K 0 = y at hcell ER
        clear hown hsrt hsl hlt
        rw [← HX4.out] at hcell
        go_wp2
        go_ret2
        rw [ER.out]
        exact ⟨rfl, hb2⟩

set_option maxHeartbeats 1000000 in
theorem implDas_any (v : Value) (ts : List Trip) (p : Int) (w : World) (hv : SlTrip w v ts) (_ : -9223372036854775808 ≤ p ∧ p ≤ 9223372036854775807) :
    Calls Tryd.prog 10 #[v, .int .i64 p] w fun e w' => e = .returned (.tuple #[.int .i64 (dasR ts p).1, .int .i64 (dasR ts p).2]) ∧ Below w.heap.size w w' := by
  have HS := Lib.hid (tripsCode_any v ts p 1 1000 w hv)
  have HV := Lib.hid hv
  obtain ⟨A, c, rfl, hla, _⟩ := hv.op
  clear hv
  have HR : Hid (dasR ts p = if tripsOk ts = true then (if inB p 1 1000 = true then (if ts.length = 0 then (0, 3) else ((srtI (lates ts)).getD (shareI ts.length p) 0, 0)) else (0, 2)) else (0, 1)) := Lib.hid rfl
  have HC : Hid (codeT ts p 1 1000 = if tripsOk ts = true then (if inB p 1 1000 = true then (if ts.length = 0 then 3 else 0) else 2) else 1) := Lib.hid rfl
  go_enter Tryd.func10, Tryd.ntmps10
  by_cases h0 : codeT ts p 1 1000 = 0
  · have hok : tripsOk ts = true := by
      have h1 := HC.out
      cases h : tripsOk ts with
      | true => rfl
      | false => rw [h] at h1; rw [h1] at h0; exact absurd h0 (by simp)
    have hin : inB p 1 1000 = true := by
      have h1 := HC.out
      cases h : inB p 1 1000 with
      | true => rfl
      | false => rw [h, hok] at h1; rw [h1] at h0; exact absurd h0 (by simp)
    have hz : ts.length ≠ 0 := fun h => by
      have h1 := HC.out
      rw [hin, hok, if_pos rfl, if_pos rfl, if_pos h] at h1; rw [h1] at h0; exact absurd h0 (by decide)
    have ER : Hid (dasR ts p = ((srtI (lates ts)).getD (shareI ts.length p) 0, 0)) := Lib.hid (by rw [HR.out, hok, hin, if_pos rfl, if_pos rfl, if_neg hz])
    have hb := inB_iff.1 hin
    obtain ⟨hx1, hx2, hx3, hx4, hx5, hx6⟩ := shareI_at hz hb.1 hb.2
    obtain ⟨hl, hall⟩ := tripsOk_at hok
    have HALL := Lib.hid hall
    have hsl : (srtI (lates ts)).length = ts.length := by rw [(srtI_is _).len, lates_len]
    have HCW : Hid (∀ d, cntW (lates ts) d ts.length = ((srtI (lates ts)).countP (fun x => decide (x ≤ d)) : Nat)) := Lib.hid (cntW_srt (srtI_is _))
    have HBD : Hid (∀ d, 0 ≤ cntW (lates ts) d ts.length ∧ cntW (lates ts) d ts.length ≤ (ts.length : Int)) := Lib.hid (fun d => cntW_bd (lates ts) d ts.length (by rw [lates_len]; exact Nat.le_refl _))
    have HSY : Hid (∀ (k : Nat) (hk : k < (srtI (lates ts)).length), k ≤ shareI ts.length p → p * (ts.length : Int) ≤ 1000 * ((srtI (lates ts)).countP (fun x => decide (x ≤ (srtI (lates ts))[k])) : Nat) → (srtI (lates ts))[k] = (srtI (lates ts)).getD (shareI ts.length p) 0) := Lib.hid (fun k hk hki ht => by
      have := share_yes (srtI_is (lates ts)).2 hki (by rw [hsl]; exact hx1) hx2 ht
      rw [this]; simp [List.getD_eq_getElem?_getD, hsl, hx1])
    have HSN : Hid (∀ (k : Nat) (hk : k < (srtI (lates ts)).length), ¬ p * (ts.length : Int) ≤ 1000 * ((srtI (lates ts)).countP (fun x => decide (x ≤ (srtI (lates ts))[k])) : Nat) → k ≠ shareI ts.length p) := Lib.hid (fun k hk hn he => by
      subst he
      exact hn (share_no (srtI_is (lates ts)).2 hk hx3))
    have HSL := Lib.hid hsl
    rw [h0] at HS
    generalize hK : shareI ts.length p = K at ER hx1 HSY HSN
    clear hz hx2 hx3 hx4 hK h0 hok hin hall hsl
    go_wp2_with fail
    refine HS.out.mono ?_
    rintro e w1 ⟨rfl, hb1⟩
    have HB1 := Lib.hid hb1
    clear hb1
    go_wp2_with fail
    refine (delays_any _ ts _ (HV.out.ex HB1.out) HALL.out).mono ?_
    rintro e w2 ⟨A2, c2, rfl, hown, hb2⟩
    have HB2 := Lib.hid (below_next0 HB1.out hb2)
    rcases Ow.form hown with ⟨_, h0, _⟩ | ⟨g, c4, hA2, hlo, hlt, _⟩
    · rw [lates_len] at h0; omega
    injection hA2 with hA2 hn2 hc2
    clear hn2
    subst hA2 hc2
    have HSO := Lib.hid (sort_any w2 (lates_len ts) hown (by omega))
    have HLO := Lib.hid HB1.out.size
    clear hown hb2 hlo hlt
    go_wp2_with fail
    refine HSO.out.mono ?_
    rintro e w3 ⟨rfl, hown, hb3⟩
    have HB3 := Lib.hid (HB2.out.trans (hb3.mono HLO.out))
    have HOW := Lib.hid hown
    clear hown hb3
    go_wp2
    go_loopw [22] (fun i wr => ∃ k : Nat, k ≤ K ∧ i = .int .i64 k ∧ Hid (OwI wr w1.heap.size (.slice (some ⟨g, 0, none⟩) ts.length c2) (srtI (lates ts))) ∧ Hid (Below w.heap.size w wr)) (fun i _ => ts.length - (intOf i).toNat)
    case atStart => exact ⟨0, Nat.zero_le _, rfl, HOW, HB3⟩
    case round =>
      obtain ⟨k, hk, rfl, HO, HB⟩ := hrel
      have hkn : k < ts.length := by omega
      have hki : (k : Int) < (ts.length : Int) := by omega
      have hkl : k < (srtI (lates ts)).length := by rw [HSL.out]; exact hkn
      have hcell : wr.cell? ⟨g, k, none⟩ = some (.int .i64 (srtI (lates ts))[k]) := by
        have h1 := HO.out
        rw [← HSL.out] at h1
        exact OwI.cell h1 hkl
      have HY := Lib.hid (HSY.out k hkl hk)
      have HN := Lib.hid (HSN.out k hkl)
      rw [← HCW.out] at HY HN
      generalize (srtI (lates ts))[k] = d at hcell HY HN
      have hbd := HBD.out d
      clear hkl
      go_wp2_with fail
      refine (tripsWithin_any _ ts d _ (HV.out.ex HB.out) HALL.out hl).mono ?_
      rintro e w5 ⟨rfl, hb5⟩
      have HO5 := Lib.hid (OwI.ex HO.out hb5)
      have HB5 := Lib.hid (below_next0 HB.out hb5)
      generalize cntW (lates ts) d ts.length = z at hbd HY HN
      clear hb5 hcell
      by_cases ht : p * (ts.length : Int) ≤ 1000 * z
      · have HE := Lib.hid (HY.out ht)
        go_wp2
        go_ret2
        rw [ER.out, ← HE.out]
        exact ⟨rfl, HB5.out⟩
      · have hne := HN.out (by omega)
        have hlt' : 1000 * z < p * (ts.length : Int) := by omega
        clear ht
        go_wp2
        go_roundw
        case rel => exact ⟨k + 1, by omega, by go_num, HO5, HB5⟩
        case measure => simp [intOf]; omega
  · have hR2 : Hid (dasR ts p = (0, codeT ts p 1 1000)) := Lib.hid (by
      have h1 := HC.out
      rw [HR.out]
      cases h : tripsOk ts with
      | false => rw [h] at h1; rw [h1]; rfl
      | true =>
        cases h2 : inB p 1 1000 with
        | false => rw [h, h2] at h1; rw [h1]; rfl
        | true =>
          rw [h, h2, if_pos rfl, if_pos rfl] at h1
          by_cases h3 : ts.length = 0
          · rw [if_pos h3] at h1; rw [if_pos rfl, if_pos rfl, if_pos h3, h1]
          · rw [if_neg h3] at h1; exact absurd h1 h0)
    generalize codeT ts p 1 1000 = cd at HS h0 hR2
    go_wp2_with fail
    refine HS.out.mono ?_
    rintro e w1 ⟨rfl, hb1⟩
    have HB1 := Lib.hid hb1
    clear hb1
    go_wp2
    go_ret2
    rw [hR2.out]
    exact ⟨rfl, HB1.out⟩
end Go.Proofs.YthpijecjifmnbaaDoor
