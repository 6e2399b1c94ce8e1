/-
Readings of sensors: ValidReadings of both. Condition: the slices read as lists.
-/
import Derived.Test.YtlgeddbgbcineaaSensA
import Derived.Test.YtlgeddbgbcineaaConReading
namespace Go.Proofs.Ytlgeddbgbcineaa
open Go.RowKit
set_option linter.unusedVariables false

def Reading.fits (m : Int) (r : Reading) : Bool := inB r.sensor 0 m && inB r.tick 0 100000
def readsOk (gs : List (List Int)) (ts : List Reading) : Bool := gapsOk gs && decide (ts.length ≤ 14) && ts.all (Reading.fits (gs.length : Int))

theorem readC_any (x y : Int) (G : Option Addr) (n c : Nat) (B : Nat) (w : World) (h : w.cell? ⟨B, 0, none⟩ = some (.slice G n c)) :
    Calls Try.prog 62 #[.agg #[.int .i64 x, .int .i64 y], .pointer (some ⟨B, 0, none⟩)] w fun e w' => e = .returned (.bool (!Reading.fits (n : Int) ⟨x, y⟩)) ∧ Below w.heap.size w w' := by
  have hlt : B < w.heap.size := by
    rcases Nat.lt_or_ge B w.heap.size with h1 | h1
    · exact h1
    · simp [World.cell?, Array.getElem?_eq_none h1] at h
  have hc := ((below_alloc w (.cells #[.int .i64 x, .int .i64 y] 35)).cell (p := ⟨B, 0, none⟩) hlt).trans h
  cases h1 : inB x 0 (n : Int)
  all_goals
    go_enter Try.func62, Try.ntmps62
    go_wp2_with (go_at_call 63; refine (within_any _ _ _ _).mono ?_; rintro e w' ⟨rfl, rfl⟩)
    go_ret
    refine ⟨ret_bool (by simp [Reading.fits, h1]), below_alloc _ _⟩

theorem validReadings_any (v u : Value) (gs : List (List Int)) (ts : List Reading) (w : World) (hv : SlII w v gs) (hu : SlReading w u ts) :
    Calls Try.prog 30 #[v, u] w fun e w' => e = .returned (.bool (readsOk gs ts)) ∧ Below w.heap.size w w' := by
  have HV := Lib.hid hv; have HU := Lib.hid hu
  obtain ⟨A, c, rfl, hla, _⟩ := hv.op
  obtain ⟨B, d, rfl, hlb, _⟩ := hu.op
  clear hv hu
  have HR : Hid (readsOk gs ts = (gapsOk gs && decide (ts.length ≤ 14) && ts.all (Reading.fits (gs.length : Int)))) := Lib.hid rfl
  go_enter Try.func30, Try.ntmps30
  go_wp2_with fail
  refine (validSensors_any _ gs _ (HV.out.ex (below_alloc _ _))).mono ?_
  rintro e w1 ⟨rfl, hb1⟩
  have HB1 := Lib.hid (below_next0 (below_alloc w _) hb1)
  cases hg : gapsOk gs with
  | false =>
    rw [hg] at HR
    clear hb1
    go_wp2
    go_ret
    exact ⟨ret_bool (by rw [HR.out]; rfl), HB1.out⟩
  | true =>
    rw [hg] at HR
    by_cases h8 : ts.length ≤ 14
    · have h8' : decide (ts.length ≤ 14) = true := by simpa using h8
      rw [h8'] at HR
      have hbox := (hb1.cell (p := ⟨w.heap.size, 0, none⟩) (by simp)).trans (show (w.alloc (.cells #[.slice A gs.length c] 22)).cell? ⟨w.heap.size, 0, none⟩ = some (.slice A gs.length c) by simp [go_sem])
      have HBOX := Lib.hid hbox
      have hblt : w.heap.size < w1.heap.size := Nat.lt_of_lt_of_le (by simp) hb1.size
      have EA : Hid (anyN (fun k => match ts[k]? with | some t => !Reading.fits (gs.length : Int) t | none => false) ts.length = !ts.all (Reading.fits (gs.length : Int))) := Lib.hid <| by
        rw [anyN_list ts (fun g => !Reading.fits (gs.length : Int) g) _ (fun k hk => by simp [hk])]
        rw [Bool.eq_iff_iff]; simp
      clear hb1 hbox h8'
      go_wp2_with fail
      refine (conReading_any 62 _ (enters_of Try.func62 (by kernel_rfl) rfl) (fun k => match ts[k]? with | some t => !Reading.fits (gs.length : Int) t | none => false) _ ts _ (HU.out.ex HB1.out) ?_).mono ?_
      · intro k hk W hW
        have hx : (match ts[k]? with | some t => !Reading.fits (gs.length : Int) t | none => false) = !Reading.fits (gs.length : Int) ts[k] := by simp [hk]
        rw [hx]
        exact readC_any _ _ _ _ _ _ W ((hW.cell (p := ⟨w.heap.size, 0, none⟩) hblt).trans HBOX.out)
      · rintro e w2 ⟨rfl, hb2⟩
        rw [EA.out]
        go_wp2
        go_ret
        exact ⟨ret_bool (by rw [HR.out]; simp), below_next0 HB1.out hb2⟩
    · have h8' : decide (ts.length ≤ 14) = false := by simpa using h8
      rw [h8'] at HR
      have h9 : (14 : Int) < (ts.length : Int) := by omega
      clear h8' hb1
      go_wp2
      go_ret
      exact ⟨ret_bool (by rw [HR.out]; rfl), HB1.out⟩

theorem l14Ok_any (v u : Value) (gs : List (List Int)) (ts : List Reading) (w : World) (hv : SlII w v gs) (hu : SlReading w u ts) :
    Calls Try.prog 59 #[v, u] w fun e w' => e = .returned (.bool (readsOk gs ts)) ∧ Below w.heap.size w w' := by
  have HV := Lib.hid hv
  obtain ⟨A, c, rfl, hla, _⟩ := hv.op
  obtain ⟨B, d, rfl, hlb, ha⟩ := hu.op
  have HA := Lib.hid ha
  clear hv hu ha
  have HR : Hid (readsOk gs ts = (gapsOk gs && decide (ts.length ≤ 14) && ts.all (Reading.fits (gs.length : Int)))) := Lib.hid rfl
  have HBAD : Hid (∀ (k : Nat) (hk : k < ts.length), Reading.fits (gs.length : Int) ts[k] = false → ts.all (Reading.fits (gs.length : Int)) = false) := Lib.hid fun k hk h => List.all_eq_false.2 ⟨_, List.getElem_mem hk, by simp [h]⟩
  go_enter Try.func59, Try.ntmps59
  go_wp2
  go_loopw [5] (fun i wr => ∃ k : Nat, k ≤ ts.length ∧ i = .int .i64 k ∧ Hid ((ts.take k).all (Reading.fits (gs.length : Int)) = true) ∧ w = wr) (fun i _ => ts.length - (intOf i).toNat)
  case atStart => exact ⟨0, Nat.zero_le _, rfl, Lib.hid rfl, rfl⟩
  case round =>
    obtain ⟨k, hk, rfl, hall, rfl⟩ := hrel
    by_cases hlt : k < ts.length
    · obtain ⟨b, o, rfl, hbs, hc0, hc1⟩ := HA.out k hlt
      have hlti : (k : Int) < (ts.length : Int) := by omega
      have HSK := Lib.hid (all_take_succ ts (Reading.fits (gs.length : Int)) k hlt)
      have HBK := Lib.hid (HBAD.out k hlt)
      generalize ts[k] = x at hc0 hc1 HSK HBK
      obtain ⟨x0, x1⟩ := x
      dsimp only at hc0 hc1
      cases h1 : inB x0 0 (gs.length : Int) with
      | false =>
        have HF := Lib.hid (HBK.out (by simp [Reading.fits, h1]))
        go_wp2_with fail
        refine (l00In_any _ _ _ _).mono ?_
        rintro e w2 ⟨rfl, rfl⟩
        rw [h1]
        go_wp2
        go_ret
        exact ⟨ret_bool (by rw [HR.out, HF.out]; simp), Below.refl _ _⟩
      | true =>
        cases h2 : inB x1 0 100000 with
        | false =>
          have HF := Lib.hid (HBK.out (by simp [Reading.fits, h2]))
          go_wp2_with fail
          refine (l00In_any _ _ _ _).mono ?_
          rintro e w2 ⟨rfl, rfl⟩
          rw [h1]
          go_wp2_with fail
          refine (l00In_any _ _ _ _).mono ?_
          rintro e w2 ⟨rfl, rfl⟩
          rw [h2]
          go_wp2
          go_ret
          exact ⟨ret_bool (by rw [HR.out, HF.out]; simp), Below.refl _ _⟩
        | true =>
          have HALL2 : Hid ((ts.take (k + 1)).all (Reading.fits (gs.length : Int)) = true) := Lib.hid (by rw [HSK.out, hall.out]; simp [Reading.fits, h1, h2])
          go_wp2_with fail
          refine (l00In_any _ _ _ _).mono ?_
          rintro e w2 ⟨rfl, rfl⟩
          rw [h1]
          go_wp2_with fail
          refine (l00In_any _ _ _ _).mono ?_
          rintro e w2 ⟨rfl, rfl⟩
          rw [h2]
          go_wp2
          go_roundw
          case rel => exact ⟨k + 1, by omega, by go_num, HALL2, by first | trivial | rfl⟩
          case measure => simp [intOf]; omega
    · have hkn : k = ts.length := by omega
      subst hkn
      have HF : Hid (ts.all (Reading.fits (gs.length : Int)) = true) := Lib.hid (by have := hall.out; rwa [List.take_of_length_le (Nat.le_refl _)] at this)
      have HD : Hid (decide (ts.length ≤ 14) = decide ((ts.length : Int) ≤ 14)) := Lib.hid (by rw [decide_eq_decide]; omega)
      rw [HF.out, HD.out] at HR
      go_wp2_with fail
      refine (l14Gaps_any _ gs _ HV.out).mono ?_
      rintro e w1 ⟨rfl, hb1⟩
      cases hg : gapsOk gs
      all_goals
        go_wp2
        go_ret
        exact ⟨ret_bool (by rw [HR.out, hg]; simp), hb1⟩

theorem specValidReadings_any (v u : Value) (gs : List (List Int)) (ts : List Reading) (w : World) (hv : SlII w v gs) (hu : SlReading w u ts) :
    Calls Try.prog 28 #[v, u] w fun e w' => e = .returned (.bool (readsOk gs ts)) ∧ Below w.heap.size w w' := by
  have HV := Lib.hid hv; have HU := Lib.hid hu
  clear hv hu
  go_enter Try.func28, Try.ntmps28
  go_wp2_with fail
  refine (l14Ok_any _ _ gs ts _ HV.out HU.out).mono ?_
  rintro e w1 ⟨rfl, hb1⟩
  go_wp2
  go_ret
  exact ⟨rfl, hb1⟩
end Go.Proofs.Ytlgeddbgbcineaa
