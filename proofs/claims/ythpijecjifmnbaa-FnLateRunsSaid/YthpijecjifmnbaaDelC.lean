/-
LongestLate of the program and of the reference; the code of trips. Condition: the slices read as lists.
-/
import Derived.Test.YthpijecjifmnbaaDelB
namespace Go.Proofs.Ythpijecjifmnbaa
open Go.RowKit
set_option linter.unusedVariables false

def nowL (p : Nat → Bool) : Nat → Int
  | 0 => 0
  | k + 1 => if p k then nowL p k + 1 else 0
def bestL (p : Nat → Bool) : Nat → Int × Int
  | 0 => (0, 0)
  | k + 1 => if p k = true ∧ (bestL p k).2 < nowL p k + 1 then ((k : Int) - (nowL p k + 1) + 1, nowL p k + 1) else bestL p k
theorem nowL_yes {p : Nat → Bool} {k : Nat} (h : p k = true) : nowL p (k + 1) = nowL p k + 1 := by simp [nowL, h]
theorem nowL_no {p : Nat → Bool} {k : Nat} (h : p k = false) : nowL p (k + 1) = 0 := by simp [nowL, h]
theorem bestL_no {p : Nat → Bool} {k : Nat} (h : p k = false) : bestL p (k + 1) = bestL p k := by simp [bestL, h]
theorem bestL_up {p : Nat → Bool} {k : Nat} (h : p k = true) (h' : (bestL p k).2 < nowL p k + 1) : bestL p (k + 1) = ((k : Int) - (nowL p k + 1) + 1, nowL p k + 1) := by simp only [bestL]; rw [if_pos ⟨h, h'⟩]
theorem bestL_same {p : Nat → Bool} {k : Nat} (h' : ¬ (bestL p k).2 < nowL p k + 1) : bestL p (k + 1) = bestL p k := by simp only [bestL]; rw [if_neg (fun h => h' h.2)]
theorem nowL_bd (p : Nat → Bool) : ∀ k : Nat, 0 ≤ nowL p k ∧ nowL p k ≤ (k : Int)
  | 0 => by simp [nowL]
  | k + 1 => by
    have ih := nowL_bd p k
    cases hp : p k with
    | false => rw [nowL_no hp]; omega
    | true => rw [nowL_yes hp]; omega
theorem bestL_bd (p : Nat → Bool) : ∀ k : Nat, 0 ≤ (bestL p k).2 ∧ (bestL p k).2 ≤ (k : Int) ∧ 0 ≤ (bestL p k).1 ∧ (bestL p k).1 ≤ (k : Int)
  | 0 => by simp [bestL]
  | k + 1 => by
    have ih := bestL_bd p k
    have hn := nowL_bd p k
    by_cases h : p k = true ∧ (bestL p k).2 < nowL p k + 1
    · rw [bestL_up h.1 h.2]; refine ⟨?_, ?_, ?_, ?_⟩ <;> dsimp only <;> omega
    · have : bestL p (k + 1) = bestL p k := by simp only [bestL]; rw [if_neg h]
      rw [this]; omega

/-- the trips that are late -/
def lateP (ts : List Trip) (n : Int) (k : Nat) : Bool := decide (n < ((ts[k]?).map Trip.late).getD 0)
theorem lateP_at {ts : List Trip} {n : Int} {k : Nat} (hk : k < ts.length) : lateP ts n k = decide (n < ts[k].late) := by simp [lateP, hk]
def longestR (ts : List Trip) (n : Int) : Int × Int × Int :=
  if tripsOk ts = true then (if inB n 0 10000 = true then (if (bestL (lateP ts n) ts.length).2 = 0 then (0, 0, 3) else ((bestL (lateP ts n) ts.length).1, (bestL (lateP ts n) ts.length).2, 0)) else (0, 0, 2)) else (0, 0, 1)

theorem specLongest_any (v : Value) (ts : List Trip) (n : Int) (w : World) (hv : SlTrip w v ts) (hn : -9223372036854775808 ≤ n ∧ n ≤ 9223372036854775807) :
    Calls Try.prog 22 #[v, .int .i64 n] w fun e w' => e = .returned (.tuple #[.int .i64 (longestR ts n).1, .int .i64 (longestR ts n).2.1, .int .i64 (longestR ts n).2.2]) ∧ Below w.heap.size w w' := by
  have HO := Lib.hid (l13List_any v ts w hv)
  obtain ⟨A, c, rfl, hla, ha⟩ := hv.op
  have HA := Lib.hid ha
  have HV := Lib.hid hv
  clear hv ha
  have HR : Hid (longestR ts n = if tripsOk ts = true then (if inB n 0 10000 = true then (if (bestL (lateP ts n) ts.length).2 = 0 then (0, 0, 3) else ((bestL (lateP ts n) ts.length).1, (bestL (lateP ts n) ts.length).2, 0)) else (0, 0, 2)) else (0, 0, 1)) := Lib.hid rfl
  go_enter Try.func22, Try.ntmps22
  cases hok : tripsOk ts with
  | false =>
    rw [hok] at HO HR
    go_wp2_with (go_at_call 53; refine HO.out.mono ?_; rintro e w' ⟨rfl, rfl⟩)
    go_ret3
    exact ⟨by rw [HR.out]; rfl, Below.refl _ _⟩
  | true =>
    obtain ⟨hl, hall⟩ := tripsOk_at hok
    have HALL := Lib.hid hall; clear hall
    rw [hok] at HO HR
    cases hin : inB n 0 10000 with
    | false =>
      rw [hin] at HR
      go_wp2_with (first | (go_at_call 53; refine HO.out.mono ?_; rintro e w' ⟨rfl, rfl⟩) | (go_at_call 57; refine (l00In_any _ _ _ _).mono ?_; rintro e w' ⟨rfl, rfl⟩; rw [hin]))
      go_ret3
      exact ⟨by rw [HR.out]; rfl, Below.refl _ _⟩
    | true =>
      have hnn := inB_iff.1 hin
      rw [hin] at HR
      go_wp2_with fail
      refine HO.out.mono ?_
      rintro e w' ⟨rfl, rfl⟩
      go_wp2_with fail
      refine (l00In_any _ _ _ _).mono ?_
      rintro e w' ⟨rfl, rfl⟩
      rw [hin]
      clear hok hin
      go_wp2
      obtain ⟨hn1, hn2⟩ := hnn
      go_loopw [7, 8, 9, 10] (fun f m nw i wr => ∃ k : Nat, k ≤ ts.length ∧ i = .int .i64 k ∧ f = .int .i64 (bestL (lateP ts n) k).1 ∧ m = .int .i64 (bestL (lateP ts n) k).2 ∧ nw = .int .i64 (nowL (lateP ts n) k) ∧ Below w.heap.size w wr) (fun _ _ _ i _ => ts.length - (intOf i).toNat)
      case atStart => exact ⟨0, Nat.zero_le _, rfl, rfl, rfl, rfl, Below.refl _ _⟩
      case round =>
        obtain ⟨k, hk, rfl, rfl, rfl, rfl, hb⟩ := hrel
        obtain ⟨hbd1, hbd2, hbd3, hbd4⟩ := bestL_bd (lateP ts n) k
        obtain ⟨hnd1, hnd2⟩ := nowL_bd (lateP ts n) k
        by_cases hlt : k < ts.length
        · obtain ⟨b, o, rfl, hbs, hc0, hc1, hc2⟩ := HA.out k hlt
          have hx0 := (hb.cell (p := ⟨b, o + k * 3, none⟩) hbs).trans hc0
          have hx1 := (hb.cell (p := ⟨b, o + k * 3 + 1, none⟩) hbs).trans hc1
          have hx2 := (hb.cell (p := ⟨b, o + k * 3 + 2, none⟩) hbs).trans hc2
          have hlti : (k : Int) < (ts.length : Int) := by omega
          have HC := Lib.hid (l13Late_any ts[k].to ts[k].due ts[k].came b (o + k * 3) wr hx0 hx1 hx2 (HALL.out k hlt))
          have hk' : Trip.late ⟨ts[k].to, ts[k].due, ts[k].came⟩ = ts[k].late := rfl
          rw [hk'] at HC
          have HP : Hid (lateP ts n k = decide (n < ts[k].late)) := Lib.hid (lateP_at hlt)
          generalize ts[k].late = x at HC HP
          have HR0 := Lib.hid (bestL_no (p := lateP ts n) (k := k)); have HR1 := Lib.hid (bestL_up (p := lateP ts n) (k := k)); have HR2 := Lib.hid (bestL_same (p := lateP ts n) (k := k))
          have HN0 := Lib.hid (nowL_no (p := lateP ts n) (k := k)); have HN1 := Lib.hid (nowL_yes (p := lateP ts n) (k := k))
          generalize bestL (lateP ts n) k = m at HR0 HR1 HR2 hbd1 hbd2 hbd3 hbd4
          generalize nowL (lateP ts n) k = nw at HR1 HR2 HN1 hnd1 hnd2
          obtain ⟨m1, m2⟩ := m
          dsimp only at hbd1 hbd2 hbd3 hbd4
          have HB := Lib.hid hb
          clear hc0 hc1 hc2 hx0 hx1 hx2 hk' hb
          by_cases hx : x ≤ n
          · have hp : lateP ts n k = false := by rw [HP.out]; simpa using hx
            have HE := Lib.hid (HR0.out hp); have HE' := Lib.hid (HN0.out hp)
            clear hp
            go_wp2_with (go_at_call 50; refine HC.out.mono ?_; rintro e w2 ⟨rfl, q, rfl⟩)
            go_roundw
            case rel => exact ⟨k + 1, by omega, by go_num, by rw [HE.out], by rw [HE.out], by rw [HE'.out], below_drewN HB.out q⟩
            case measure => simp [intOf]; omega
          · have hp : lateP ts n k = true := by rw [HP.out]; simp; omega
            have hx' : n < x := by omega
            clear hx
            have HE' := Lib.hid (HN1.out hp)
            by_cases hm : m2 < nw + 1
            · have HE := Lib.hid (HR1.out hp hm)
              clear hp
              go_wp2_with (go_at_call 50; refine HC.out.mono ?_; rintro e w2 ⟨rfl, q, rfl⟩)
              go_roundw
              case rel => exact ⟨k + 1, by omega, by go_num, by rw [HE.out], by rw [HE.out], by rw [HE'.out], below_drewN HB.out q⟩
              case measure => simp [intOf]; omega
            · have HE := Lib.hid (HR2.out hm)
              have hm' : nw + 1 ≤ m2 := by omega
              clear hp hm
              go_wp2_with (go_at_call 50; refine HC.out.mono ?_; rintro e w2 ⟨rfl, q, rfl⟩)
              go_roundw
              case rel => exact ⟨k + 1, by omega, by go_num, by rw [HE.out], by rw [HE.out], by rw [HE'.out], below_drewN HB.out q⟩
              case measure => simp [intOf]; omega
        · have hkn : k = ts.length := by omega
          subst hkn
          have HB := Lib.hid hb; clear hb
          by_cases hz : (bestL (lateP ts n) ts.length).2 = 0
          · have hz' : ((bestL (lateP ts n) ts.length).2 == 0) = true := by simpa using hz
            have HZ := Lib.hid hz
            clear hz
            go_wp2
            go_ret3
            exact ⟨by rw [HR.out]; simp [HZ.out], HB.out⟩
          · have hz' : ((bestL (lateP ts n) ts.length).2 == 0) = false := by simpa using hz
            have HZ := Lib.hid hz
            clear hz
            go_wp2
            go_ret3
            exact ⟨by rw [HR.out]; simp [HZ.out], HB.out⟩

theorem implLongest_any (v : Value) (ts : List Trip) (n : Int) (w : World) (hv : SlTrip w v ts) (hn : -9223372036854775808 ≤ n ∧ n ≤ 9223372036854775807) :
    Calls Try.prog 23 #[v, .int .i64 n] w fun e w' => e = .returned (.tuple #[.int .i64 (longestR ts n).1, .int .i64 (longestR ts n).2.1, .int .i64 (longestR ts n).2.2]) ∧ Below w.heap.size w w' := by
  have HO := Lib.hid (validTrips_any v ts w hv)
  have HV := Lib.hid hv
  clear hv
  have HR : Hid (longestR ts n = if tripsOk ts = true then (if inB n 0 10000 = true then (if (bestL (lateP ts n) ts.length).2 = 0 then (0, 0, 3) else ((bestL (lateP ts n) ts.length).1, (bestL (lateP ts n) ts.length).2, 0)) else (0, 0, 2)) else (0, 0, 1)) := Lib.hid rfl
  go_enter Try.func23, Try.ntmps23
  cases hok : tripsOk ts with
  | false =>
    rw [hok] at HO HR
    go_wp2_with (go_at_call 20; refine HO.out.mono ?_; rintro e w' ⟨rfl, hb1⟩)
    go_ret3
    exact ⟨by rw [HR.out]; rfl, hb1⟩
  | true =>
    obtain ⟨hl, hall⟩ := tripsOk_at hok
    have HALL := Lib.hid hall; clear hall
    rw [hok] at HO HR
    go_wp2_with fail
    refine HO.out.mono ?_
    rintro e w1 ⟨rfl, hb1⟩
    cases hin : inB n 0 10000 with
    | false =>
      rw [hin] at HR
      go_wp2_with (go_at_call 58; refine (within_any _ _ _ _).mono ?_; rintro e w' ⟨rfl, rfl⟩; rw [hin])
      go_ret3
      exact ⟨by rw [HR.out]; rfl, hb1⟩
    | true =>
      have hnn := inB_iff.1 hin
      rw [hin] at HR
      go_wp2_with fail
      refine (within_any _ _ _ _).mono ?_
      rintro e w' ⟨rfl, rfl⟩
      rw [hin]
      clear hok hin
      have HB1 := Lib.hid hb1; clear hb1
      go_wp2_with fail
      refine (delays_any _ ts _ (HV.out.ex HB1.out) HALL.out).mono ?_
      rintro e w2 ⟨A, c, rfl, hown, hb2⟩
      obtain ⟨A', c', hAc, hle, hcs⟩ := hown.sl.op
      injection hAc with hA1 hA2 hA3
      subst hA1 hA3
      have HC := Lib.hid hcs
      have HB2 := Lib.hid (below_next0 HB1.out hb2)
      clear hcs hown hb2 hA2
      go_wp2
      obtain ⟨hn1, hn2⟩ := hnn
      go_loopw [7, 8, 9, 23] (fun f m nw i wr => ∃ k : Nat, k ≤ ts.length ∧ i = .int .i64 k ∧ f = .int .i64 (bestL (lateP ts n) k).1 ∧ m = .int .i64 (bestL (lateP ts n) k).2 ∧ nw = .int .i64 (nowL (lateP ts n) k) ∧ w2 = wr) (fun _ _ _ i _ => ts.length - (intOf i).toNat)
      case atStart => exact ⟨0, Nat.zero_le _, rfl, rfl, rfl, rfl, rfl⟩
      case round =>
        obtain ⟨k, hk, rfl, rfl, rfl, rfl, rfl⟩ := hrel
        obtain ⟨hbd1, hbd2, hbd3, hbd4⟩ := bestL_bd (lateP ts n) k
        obtain ⟨hnd1, hnd2⟩ := nowL_bd (lateP ts n) k
        by_cases hlt : k < ts.length
        · obtain ⟨b, o, rfl, hbs, hc⟩ := HC.out k (by rw [lates_len]; exact hlt)
          have hcell := hc k (by rw [lates_len]; exact hlt)
          rw [lates_get hlt] at hcell
          have hlti : (k : Int) < (ts.length : Int) := by omega
          have HP : Hid (lateP ts n k = decide (n < ts[k].late)) := Lib.hid (lateP_at hlt)
          generalize ts[k].late = x at hcell HP
          have HR0 := Lib.hid (bestL_no (p := lateP ts n) (k := k)); have HR1 := Lib.hid (bestL_up (p := lateP ts n) (k := k)); have HR2 := Lib.hid (bestL_same (p := lateP ts n) (k := k))
          have HN0 := Lib.hid (nowL_no (p := lateP ts n) (k := k)); have HN1 := Lib.hid (nowL_yes (p := lateP ts n) (k := k))
          generalize bestL (lateP ts n) k = m at HR0 HR1 HR2 hbd1 hbd2 hbd3 hbd4
          generalize nowL (lateP ts n) k = nw at HR1 HR2 HN1 hnd1 hnd2
          obtain ⟨m1, m2⟩ := m
          dsimp only at hbd1 hbd2 hbd3 hbd4
          clear hc
          by_cases hx : x ≤ n
          · have hp : lateP ts n k = false := by rw [HP.out]; simpa using hx
            have HE := Lib.hid (HR0.out hp); have HE' := Lib.hid (HN0.out hp)
            clear hp
            go_wp2
            go_roundw
            case rel => exact ⟨k + 1, by omega, by go_num, by rw [HE.out], by rw [HE.out], by rw [HE'.out], by first | trivial | rfl⟩
            case measure => simp [intOf]; omega
          · have hp : lateP ts n k = true := by rw [HP.out]; simp; omega
            have hx' : n < x := by omega
            clear hx
            have HE' := Lib.hid (HN1.out hp)
            by_cases hm : m2 < nw + 1
            · have HE := Lib.hid (HR1.out hp hm)
              clear hp
              go_wp2
              go_roundw
              case rel => exact ⟨k + 1, by omega, by go_num, by rw [HE.out], by rw [HE.out], by rw [HE'.out], by first | trivial | rfl⟩
              case measure => simp [intOf]; omega
            · have HE := Lib.hid (HR2.out hm)
              have hm' : nw + 1 ≤ m2 := by omega
              clear hp hm
              go_wp2
              go_roundw
              case rel => exact ⟨k + 1, by omega, by go_num, by rw [HE.out], by rw [HE.out], by rw [HE'.out], by first | trivial | rfl⟩
              case measure => simp [intOf]; omega
        · have hkn : k = ts.length := by omega
          subst hkn
          by_cases hz : (bestL (lateP ts n) ts.length).2 = 0
          · have hz' : ((bestL (lateP ts n) ts.length).2 == 0) = true := by simpa using hz
            have HZ := Lib.hid hz
            clear hz
            go_wp2
            go_ret3
            exact ⟨by rw [HR.out]; simp [HZ.out], HB2.out⟩
          · have hz' : ((bestL (lateP ts n) ts.length).2 == 0) = false := by simpa using hz
            have HZ := Lib.hid hz
            clear hz
            go_wp2
            go_ret3
            exact ⟨by rw [HR.out]; simp [HZ.out], HB2.out⟩
end Go.Proofs.Ythpijecjifmnbaa
