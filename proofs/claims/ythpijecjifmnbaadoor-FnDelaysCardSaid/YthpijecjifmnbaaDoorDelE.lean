/-
DelayClasses of the program and of the reference. Condition: the slices read as lists.
-/
import Derived.Test.YthpijecjifmnbaaDoorDelB
namespace Go.Proofs.YthpijecjifmnbaaDoor
open Go.RowKit
set_option linter.unusedVariables false

def addAt (l : List Int) (i : Nat) : List Int := l.set i (l.getD i 0 + 1)
def clsIx (wd : Int) (n : Nat) (d : Int) : Nat := (min (d / wd) ((n : Int) - 1)).toNat
def clsK (ds : List Int) (wd : Int) (n k : Nat) : List Int := (ds.take k).foldl (fun l d => addAt l (clsIx wd n d)) (List.replicate n 0)
theorem addAt_len (l : List Int) (i : Nat) : (addAt l i).length = l.length := by simp [addAt]
theorem clsK_succ {ds : List Int} {wd : Int} {n k : Nat} (hk : k < ds.length) : clsK ds wd n (k + 1) = addAt (clsK ds wd n k) (clsIx wd n ds[k]) := by
  unfold clsK; rw [List.take_succ_eq_append_getElem hk, List.foldl_append]; rfl
theorem clsK_inv (ds : List Int) (wd : Int) (n : Nat) : ∀ k : Nat, k ≤ ds.length → (clsK ds wd n k).length = n ∧ ∀ x ∈ clsK ds wd n k, 0 ≤ x ∧ x ≤ (k : Int)
  | 0, _ => by simp [clsK]
  | k + 1, hk => by
    obtain ⟨h1, h2⟩ := clsK_inv ds wd n k (by omega)
    rw [clsK_succ (by omega)]
    refine ⟨by rw [addAt_len, h1], fun x hx => ?_⟩
    unfold addAt at hx
    rcases List.mem_or_eq_of_mem_set hx with hx | rfl
    · have := h2 x hx; omega
    · by_cases hi : clsIx wd n ds[k] < (clsK ds wd n k).length
      · rw [List.getD_eq_getElem?_getD, List.getElem?_eq_getElem hi]
        have := h2 _ (List.getElem_mem hi)
        simp only [Option.getD_some]; omega
      · rw [List.getD_eq_getElem?_getD, List.getElem?_eq_none (by omega)]
        simp only [Option.getD_none]; omega
theorem clsIx_ok {wd d : Int} {n : Nat} (hw : 1 ≤ wd) (hd : 0 ≤ d ∧ d ≤ 10000) (hn : 1 ≤ n) : 0 ≤ d / wd ∧ d / wd ≤ 10000 ∧ clsIx wd n d < n ∧ ((clsIx wd n d : Nat) : Int) = min (d / wd) ((n : Int) - 1) := by
  have h1 : 0 ≤ d / wd := Int.ediv_nonneg hd.1 (by omega)
  have h2 : d / wd ≤ d := Int.ediv_le_self _ hd.1
  unfold clsIx
  refine ⟨h1, by omega, by omega, by omega⟩
def classesR (ts : List Trip) (wd cl : Int) : List Int × Int :=
  if tripsOk ts = true then (if inB wd 1 10000 = true ∧ inB cl 1 20 = true then (clsK (lates ts) wd cl.toNat ts.length, 0) else ([], 2)) else ([], 1)

theorem l00Min_any (x y : Int) (w : World) : Calls Tryd.prog 54 #[.int .i64 x, .int .i64 y] w fun e w' => e = .returned (.int .i64 (min x y)) ∧ w = w' := by
  go_enter Tryd.func54, Tryd.ntmps54
  go_wp2
  all_goals go_ret
  all_goals exact ⟨ret_int (by omega), rfl⟩

theorem owI_nil (w : World) (lo : Nat) : OwI w lo (.slice none 0 0) [] := ⟨World.ownsRow_nil _ _ _ _, by simp⟩

set_option maxHeartbeats 1000000 in
theorem specClasses_any (v : Value) (ts : List Trip) (wd cl : Int) (w : World) (hv : SlTrip w v ts) (hwd : -9223372036854775808 ≤ wd ∧ wd ≤ 9223372036854775807) (hcl : -9223372036854775808 ≤ cl ∧ cl ≤ 9223372036854775807) :
    Calls Tryd.prog 19 #[v, .int .i64 wd, .int .i64 cl] w fun e w' => ∃ A c, e = .returned (.tuple #[.slice A (classesR ts wd cl).1.length c, .int .i64 (classesR ts wd cl).2]) ∧ OwI w' w.heap.size (.slice A (classesR ts wd cl).1.length c) (classesR ts wd cl).1 ∧ Below w.heap.size w w' := by
  have HO := Lib.hid (l13List_any v ts w hv)
  obtain ⟨A, c, rfl, hla, ha⟩ := hv.op
  have HA := Lib.hid ha
  clear hv ha
  have HR : Hid (classesR ts wd cl = if tripsOk ts = true then (if inB wd 1 10000 = true ∧ inB cl 1 20 = true then (clsK (lates ts) wd cl.toNat ts.length, 0) else ([], 2)) else ([], 1)) := Lib.hid rfl
  have HNIL := Lib.hid (fun w' : World => owI_nil w' w.heap.size)
  go_enter Tryd.func19, Tryd.ntmps19
  cases hok : tripsOk ts with
  | false =>
    have E : Hid (classesR ts wd cl = ([], 1)) := Lib.hid (by rw [HR.out, hok]; rfl)
    rw [hok] at HO
    go_wp2_with (go_at_call 53; refine HO.out.mono ?_; rintro e w' ⟨rfl, rfl⟩)
    go_ret2
    exact ⟨none, 0, by rw [E.out]; rfl, by rw [E.out]; exact HNIL.out _, Below.refl _ _⟩
  | true =>
    obtain ⟨hl, hall⟩ := tripsOk_at hok
    have HALL := Lib.hid hall; clear hall
    rw [hok] at HO HR
    cases hin : inB wd 1 10000 with
    | false =>
      have E : Hid (classesR ts wd cl = ([], 2)) := Lib.hid (by rw [HR.out, hin]; rfl)
      go_wp2_with (first | (go_at_call 53; refine HO.out.mono ?_; rintro e w' ⟨rfl, rfl⟩) | (go_at_call 44; refine (l00In_any _ _ _ _).mono ?_; rintro e w' ⟨rfl, rfl⟩; rw [hin]))
      go_ret2
      exact ⟨none, 0, by rw [E.out]; rfl, by rw [E.out]; exact HNIL.out _, Below.refl _ _⟩
    | true =>
      have hw1 := inB_iff.1 hin
      cases hin2 : inB cl 1 20 with
      | false =>
        have E : Hid (classesR ts wd cl = ([], 2)) := Lib.hid (by rw [HR.out, hin, hin2]; rfl)
        go_wp2_with (first | (go_at_call 53; refine HO.out.mono ?_; rintro e w' ⟨rfl, rfl⟩) | (go_at_call 44; refine (l00In_any _ _ _ _).mono ?_; rintro e w' ⟨rfl, rfl⟩; first | rw [hin] | rw [hin2]))
        go_ret2
        exact ⟨none, 0, by rw [E.out]; rfl, by rw [E.out]; exact HNIL.out _, Below.refl _ _⟩
      | true =>
        have hc1 := inB_iff.1 hin2
        obtain ⟨n, rfl⟩ := Int.eq_ofNat_of_zero_le (show 0 ≤ cl by omega)
        have E : Hid (classesR ts wd n = (clsK (lates ts) wd n ts.length, 0)) := Lib.hid (by rw [HR.out, hin, hin2]; simp)
        have hn1 : 1 ≤ n := by omega
        have hn2 : n ≤ 20 := by omega
        obtain ⟨hw1, hw2⟩ := hw1
        go_wp2_with fail
        refine HO.out.mono ?_
        rintro e w' ⟨rfl, rfl⟩
        go_wp2_with fail
        refine (l00In_any _ _ _ _).mono ?_
        rintro e w' ⟨rfl, rfl⟩
        rw [hin]
        go_wp2_with fail
        refine (l00In_any _ _ _ _).mono ?_
        rintro e w' ⟨rfl, rfl⟩
        rw [hin2]
        clear hok hin hin2 hc1 hcl
        go_wp2_with (with_reducible refine wpList_make1 _ rfl (.tmp 21) (.tmp 21) _ rfl w.heap.size 2 (.int .i64 0) 8 Tryd.underlying42 infoI rfl _ _ n rfl rfl (by omega) (by omega) (Nat.le_refl _) ?_; intro w1 hown hb hsz)
        have HOW : Hid (OwI w1 w.heap.size (.slice (some ⟨w.heap.size, 0, none⟩) n n) (clsK (lates ts) wd n 0)) := Lib.hid (by simpa [OwI, clsK] using hown)
        have HB := Lib.hid hb
        clear hown hb
        go_wp2
        go_loopw [9] (fun i wr => ∃ k : Nat, k ≤ ts.length ∧ i = .int .i64 k ∧ OwI wr w.heap.size (.slice (some ⟨w.heap.size, 0, none⟩) n n) (clsK (lates ts) wd n k) ∧ Below w.heap.size w wr) (fun i _ => ts.length - (intOf i).toNat)
        case atStart => exact ⟨0, Nat.zero_le _, rfl, HOW.out, HB.out⟩
        case round =>
          obtain ⟨k, hk, rfl, hown, hb⟩ := hrel
          by_cases hlt : k < ts.length
          · obtain ⟨b, o, rfl, hbs, hc0, hc1, hc2⟩ := HA.out k hlt
            have hx0 := (hb.cell (p := ⟨b, o + k * 3, none⟩) hbs).trans hc0
            have hx1 := (hb.cell (p := ⟨b, o + k * 3 + 1, none⟩) hbs).trans hc1
            have hx2 := (hb.cell (p := ⟨b, o + k * 3 + 2, none⟩) hbs).trans hc2
            have hlti : (k : Int) < (ts.length : Int) := by omega
            have HC := Lib.hid (l13Late_any ts[k].to ts[k].due ts[k].came b (o + k * 3) wr hx0 hx1 hx2 (HALL.out k hlt))
            have hk' : Trip.late ⟨ts[k].to, ts[k].due, ts[k].came⟩ = ts[k].late := rfl
            rw [hk'] at HC
            have hxb := Trip.late_bd (HALL.out k hlt)
            have hll : k < (lates ts).length := by rw [lates_len]; exact hlt
            have HS : Hid (clsK (lates ts) wd n (k + 1) = addAt (clsK (lates ts) wd n k) (clsIx wd n ts[k].late)) := Lib.hid (by rw [clsK_succ hll, lates_get hlt])
            obtain ⟨hinv1, hinv2⟩ := clsK_inv (lates ts) wd n k (by omega)
            generalize ts[k].late = x at HC hxb HS
            obtain ⟨hj1, hj2, hj3, hj4⟩ := clsIx_ok (n := n) hw1 hxb hn1
            generalize clsK (lates ts) wd n k = l at hown hinv1 hinv2 HS
            generalize clsIx wd n x = j at hj3 hj4 HS
            have HJ : Hid (min ((n : Int) - 1) (x / wd) = (j : Int)) := Lib.hid (by rw [hj4, Int.min_comm])
            subst hinv1
            have hcj := hown.cell hj3
            have hfj := hown.free j
            have hxj := hinv2 _ (List.getElem_mem hj3)
            have hadd : addAt l j = l.set j (l[j] + 1) := by simp [addAt, List.getD_eq_getElem?_getD, hj3]
            rw [hadd] at HS
            generalize l[j] = y at hcj hxj HS
            have HOWN := Lib.hid hown; have HBR := Lib.hid hb
            clear hc0 hc1 hc2 hx0 hx1 hx2 hk' hown hinv2 hj4 hadd hb
            obtain ⟨hxb1, hxb2⟩ := hxb
            obtain ⟨hxj1, hxj2⟩ := hxj
            go_wp2_with fail
            refine HC.out.mono ?_
            rintro e w2 ⟨rfl, q, rfl⟩
            go_wp2_with fail
            refine (l00Min_any _ _ _).mono ?_
            rintro e w2 ⟨rfl, rfl⟩
            rw [HJ.out]
            have HN := Lib.hid (OwI.set (Ow.drewN HOWN.out q) j (y + 1))
            have HB2 := Lib.hid ((below_drewN HBR.out q).setCell (p := ⟨w.heap.size, j, none⟩) (Nat.le_refl _) (.int .i64 (y + 1)))
            go_wp2
            go_roundw
            case rel => exact ⟨k + 1, by omega, by go_num, by rw [HS.out]; exact HN.out, HB2.out⟩
            case measure => simp [intOf]; omega
          · have hkn : k = ts.length := by omega
            subst hkn
            have HO2 := Lib.hid hown
            clear hown
            go_wp2
            go_ret2
            have hln := (clsK_inv (lates ts) wd n ts.length (by rw [lates_len]; omega)).1
            exact ⟨some ⟨w.heap.size, 0, none⟩, n, by rw [E.out]; simp only [hln]; rfl, by rw [E.out]; simp only [hln]; exact HO2.out, hb⟩
set_option maxHeartbeats 1000000 in
theorem implClasses_any (v : Value) (ts : List Trip) (wd cl : Int) (w : World) (hv : SlTrip w v ts) (hwd : -9223372036854775808 ≤ wd ∧ wd ≤ 9223372036854775807) (hcl : -9223372036854775808 ≤ cl ∧ cl ≤ 9223372036854775807) :
    Calls Tryd.prog 18 #[v, .int .i64 wd, .int .i64 cl] w fun e w' => ∃ A c, e = .returned (.tuple #[.slice A (classesR ts wd cl).1.length c, .int .i64 (classesR ts wd cl).2]) ∧ OwI w' w.heap.size (.slice A (classesR ts wd cl).1.length c) (classesR ts wd cl).1 ∧ Below w.heap.size w w' := by
  have HO := Lib.hid (validTrips_any v ts w hv)
  have HV := Lib.hid hv
  clear hv
  have HR : Hid (classesR ts wd cl = if tripsOk ts = true then (if inB wd 1 10000 = true ∧ inB cl 1 20 = true then (clsK (lates ts) wd cl.toNat ts.length, 0) else ([], 2)) else ([], 1)) := Lib.hid rfl
  have HNIL := Lib.hid (fun w' : World => owI_nil w' w.heap.size)
  go_enter Tryd.func18, Tryd.ntmps18
  cases hok : tripsOk ts with
  | false =>
    have E : Hid (classesR ts wd cl = ([], 1)) := Lib.hid (by rw [HR.out, hok]; rfl)
    rw [hok] at HO
    go_wp2_with (go_at_call 26; refine HO.out.mono ?_; rintro e w1 ⟨rfl, hb1⟩)
    go_ret2
    exact ⟨none, 0, by rw [E.out]; rfl, by rw [E.out]; exact HNIL.out _, hb1⟩
  | true =>
    obtain ⟨hl, hall⟩ := tripsOk_at hok
    have HALL := Lib.hid hall; clear hall
    rw [hok] at HO HR
    cases hin : inB wd 1 10000 with
    | false =>
      have E : Hid (classesR ts wd cl = ([], 2)) := Lib.hid (by rw [HR.out, hin]; rfl)
      go_wp2_with (first | (go_at_call 26; refine HO.out.mono ?_; rintro e w1 ⟨rfl, hb1⟩) | (go_at_call 52; refine (within_any _ _ _ _).mono ?_; rintro e w' ⟨rfl, rfl⟩; rw [hin]))
      go_ret2
      exact ⟨none, 0, by rw [E.out]; rfl, by rw [E.out]; exact HNIL.out _, hb1⟩
    | true =>
      have hw1 := inB_iff.1 hin
      cases hin2 : inB cl 1 20 with
      | false =>
        have E : Hid (classesR ts wd cl = ([], 2)) := Lib.hid (by rw [HR.out, hin, hin2]; rfl)
        go_wp2_with (first | (go_at_call 26; refine HO.out.mono ?_; rintro e w1 ⟨rfl, hb1⟩) | (go_at_call 52; refine (within_any _ _ _ _).mono ?_; rintro e w' ⟨rfl, rfl⟩; first | rw [hin] | rw [hin2]))
        go_ret2
        exact ⟨none, 0, by rw [E.out]; rfl, by rw [E.out]; exact HNIL.out _, hb1⟩
      | true =>
        have hc1 := inB_iff.1 hin2
        obtain ⟨n, rfl⟩ := Int.eq_ofNat_of_zero_le (show 0 ≤ cl by omega)
        have E : Hid (classesR ts wd n = (clsK (lates ts) wd n ts.length, 0)) := Lib.hid (by rw [HR.out, hin, hin2]; simp)
        have hn1 : 1 ≤ n := by omega
        have hn2 : n ≤ 20 := by omega
        obtain ⟨hw1, hw2⟩ := hw1
        go_wp2_with fail
        refine HO.out.mono ?_
        rintro e w1 ⟨rfl, hb1⟩
        go_wp2_with fail
        refine (within_any _ _ _ _).mono ?_
        rintro e w' ⟨rfl, rfl⟩
        rw [hin]
        go_wp2_with fail
        refine (within_any _ _ _ _).mono ?_
        rintro e w' ⟨rfl, rfl⟩
        rw [hin2]
        clear hok hin hin2 hc1 hcl
        have HB1 := Lib.hid hb1; clear hb1
        go_wp2_with (with_reducible refine wpList_make1 _ rfl (.tmp 24) (.tmp 24) _ rfl w1.heap.size 2 (.int .i64 0) 8 Tryd.underlying42 infoI rfl _ _ n rfl rfl (by omega) (by omega) (Nat.le_refl _) ?_; intro w2 hown hb hsz)
        have HOW : Hid (OwI w2 w1.heap.size (.slice (some ⟨w1.heap.size, 0, none⟩) n n) (clsK (lates ts) wd n 0)) := Lib.hid (by simpa [OwI, clsK] using hown)
        have HB2 := Lib.hid (below_next0 HB1.out hb)
        clear hown hb
        go_wp2_with fail
        refine (delays_any _ ts _ (HV.out.ex HB2.out) HALL.out).mono ?_
        rintro e w3 ⟨A, c, rfl, hown, hb3⟩
        have hsp := Ow.sep_new' HOW.out hown (Nat.le_refl _)
        have HSP := Lib.hid hsp
        have HD := Lib.hid hown
        have HOW3 := Lib.hid (HOW.out.ex hb3)
        have HB3 := Lib.hid (below_next0 HB2.out hb3)
        have hlo1 := HB1.out.size
        clear hown hb3 hsp
        go_wp2
        go_loopw [29] (fun i wr => ∃ k : Nat, k ≤ ts.length ∧ i = .int .i64 k ∧ OwI wr w1.heap.size (.slice (some ⟨w1.heap.size, 0, none⟩) n n) (clsK (lates ts) wd n k) ∧ OwI wr w2.heap.size (.slice A ts.length c) (lates ts) ∧ Below w.heap.size w wr) (fun i _ => ts.length - (intOf i).toNat)
        case atStart => exact ⟨0, Nat.zero_le _, rfl, HOW3.out, HD.out, HB3.out⟩
        case round =>
          obtain ⟨k, hk, rfl, hown, hds, hb⟩ := hrel
          by_cases hlt : k < ts.length
          · have hll : k < (lates ts).length := by rw [lates_len]; exact hlt
            obtain ⟨A', c', hAc, hle, hcs⟩ := hds.sl.op
            injection hAc with hA1 hA2 hA3
            subst hA1 hA3
            obtain ⟨b, o, rfl, hbs, hc⟩ := hcs k hll
            have hcell := hc k hll
            rw [lates_get hlt] at hcell
            have hlti : (k : Int) < (ts.length : Int) := by omega
            have hxb := Trip.late_bd (HALL.out k hlt)
            have HS : Hid (clsK (lates ts) wd n (k + 1) = addAt (clsK (lates ts) wd n k) (clsIx wd n ts[k].late)) := Lib.hid (by rw [clsK_succ hll, lates_get hlt])
            obtain ⟨hinv1, hinv2⟩ := clsK_inv (lates ts) wd n k (by omega)
            generalize ts[k].late = x at hcell hxb HS
            obtain ⟨hj1, hj2, hj3, hj4⟩ := clsIx_ok (n := n) hw1 hxb hn1
            generalize clsK (lates ts) wd n k = l at hown hinv1 hinv2 HS
            generalize clsIx wd n x = j at hj3 hj4 HS
            subst hinv1
            have hcj := hown.cell hj3
            have hfj := hown.free j
            have hxj := hinv2 _ (List.getElem_mem hj3)
            have hadd : addAt l j = l.set j (l[j] + 1) := by simp [addAt, List.getD_eq_getElem?_getD, hj3]
            rw [hadd] at HS
            generalize l[j] = y at hcj hxj HS
            have HN := Lib.hid (hown.set j (y + 1))
            have HD2 := Lib.hid (hds.keptS (Ow.grow hown (k := j) (.int .i64 (y + 1))) HSP.out)
            have HB4 := Lib.hid (hb.setCell (p := ⟨w1.heap.size, j, none⟩) hlo1 (.int .i64 (y + 1)))
            clear hc hcs hown hds hinv2 hadd hb hle hA2
            obtain ⟨hxb1, hxb2⟩ := hxb
            obtain ⟨hxj1, hxj2⟩ := hxj
            by_cases hq : x / wd ≤ (l.length : Int) - 1
            · have hjq : x / wd = (j : Int) := by omega
              clear hj4
              go_wp2
              go_roundw
              case rel => exact ⟨k + 1, by omega, by go_num, by rw [HS.out]; exact HN.out, HD2.out, HB4.out⟩
              case measure => simp [intOf]; omega
            · have hjq : (l.length : Int) - 1 = (j : Int) := by omega
              have hq' : (l.length : Int) - 1 < x / wd := by omega
              clear hj4 hq
              go_wp2
              go_roundw
              case rel => exact ⟨k + 1, by omega, by go_num, by rw [HS.out]; exact HN.out, HD2.out, HB4.out⟩
              case measure => simp [intOf]; omega
          · have hkn : k = ts.length := by omega
            subst hkn
            have HO2 := Lib.hid hown
            clear hown
            go_wp2
            go_ret2
            have hln := (clsK_inv (lates ts) wd n ts.length (by rw [lates_len]; omega)).1
            exact ⟨some ⟨w1.heap.size, 0, none⟩, n, by rw [E.out]; simp only [hln]; rfl, by rw [E.out]; simp only [hln]; exact HO2.out.mono hlo1, hb⟩
end Go.Proofs.YthpijecjifmnbaaDoor
