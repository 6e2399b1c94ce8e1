/-
The delays of trips, their sum, their code, how many are small: by their contracts. Condition: the slices read as lists.
-/
import Derived.Test.YthpijecjifmnbaaDoorDelA
import Derived.Test.YthpijecjifmnbaaDoorAppI
namespace Go.Proofs.YthpijecjifmnbaaDoor
open Go.RowKit
set_option linter.unusedVariables false

theorem tripsOk_at {ts : List Trip} (h : tripsOk ts = true) : ts.length ≤ 100 ∧ ∀ (k : Nat) (hk : k < ts.length), Trip.ok ts[k] = true := by
  simp only [tripsOk, Bool.and_eq_true, List.all_eq_true, decide_eq_true_eq] at h
  exact ⟨h.2, fun k hk => h.1 _ (List.getElem_mem hk)⟩
theorem Trip.late_bd {t : Trip} (h : t.ok = true) : 0 ≤ t.late ∧ t.late ≤ 10000 := by
  obtain ⟨x, y, z⟩ := t
  obtain ⟨_, h1, h2⟩ := Trip.okd h
  unfold Trip.late; dsimp only; omega
def lates (ts : List Trip) : List Int := ts.map Trip.late
theorem lates_len (ts : List Trip) : (lates ts).length = ts.length := by simp [lates]
theorem lates_get {ts : List Trip} {k : Nat} (hk : k < ts.length) : (lates ts)[k]'(by rw [lates_len]; exact hk) = ts[k].late := by simp [lates]
theorem lates_take {ts : List Trip} {k : Nat} (hk : k < ts.length) : lates (ts.take (k + 1)) = lates (ts.take k) ++ [ts[k].late] := by
  unfold lates; rw [List.take_succ_eq_append_getElem hk, List.map_append]; rfl

set_option maxHeartbeats 1000000 in
theorem delays_any (v : Value) (ts : List Trip) (w : World) (hv : SlTrip w v ts) (hok : ∀ (k : Nat) (hk : k < ts.length), Trip.ok ts[k] = true) :
    Calls Tryd.prog 40 #[v] w fun e w' => ∃ A c, e = .returned (.slice A ts.length c) ∧ OwI w' w.heap.size (.slice A ts.length c) (lates ts) ∧ Below w.heap.size w w' := by
  obtain ⟨A, c, rfl, hla, ha⟩ := hv.op
  clear hv
  have HA := Lib.hid ha; clear ha
  have HO := Lib.hid hok; clear hok
  have hem := owI_empty w w.heap.size (Nat.le_refl _)
  have HEM := Lib.hid hem; clear hem
  go_enter Tryd.func40, Tryd.ntmps40
  go_wp2
  go_loopw [3, 9] (fun out i wr => ∃ (k : Nat) (A2 : Option Addr) (c2 : Nat), k ≤ ts.length ∧ i = .int .i64 k ∧ out = .slice A2 k c2 ∧ OwI wr w.heap.size (.slice A2 k c2) (lates (ts.take k)) ∧ Below w.heap.size w wr) (fun _ i _ => ts.length - (intOf i).toNat)
  case atStart => exact ⟨0, _, _, Nat.zero_le _, rfl, rfl, HEM.out, below_alloc _ _⟩
  case round =>
    obtain ⟨k, A2, c2, hk, rfl, rfl, hown, hb⟩ := hrel
    by_cases hlt : k < ts.length
    · obtain ⟨b, o, rfl, hbs, hc0, hc1, hc2⟩ := HA.out k hlt
      have hx0 := (hb.cell (p := ⟨b, o + k * 3, none⟩) hbs).trans hc0
      have hx1 := (hb.cell (p := ⟨b, o + k * 3 + 1, none⟩) hbs).trans hc1
      have hx2 := (hb.cell (p := ⟨b, o + k * 3 + 2, none⟩) hbs).trans hc2
      have hlti : (k : Int) < (ts.length : Int) := by omega
      have HX := Lib.hid (HO.out k hlt)
      have HT := Lib.hid (lates_take hlt)
      have hkl : (lates (ts.take k)).length = k := by rw [lates_len, List.length_take]; omega
      have HKL := Lib.hid hkl
      have HOW := Lib.hid hown; have HB := Lib.hid hb
      generalize ts[k] = x at hx0 hx1 hx2 HX HT
      obtain ⟨x0, x1, x2⟩ := x
      dsimp only at hx0 hx1 hx2
      clear hc0 hc1 hc2 hkl hown hb
      go_wp2_with fail
      refine (delay_any _ _ _ _ HX.out).mono ?_
      rintro e w2 ⟨rfl, hb2⟩
      have HB2 := Lib.hid (below_next0 (below_alloc wr _) hb2)
      clear hb2
      go_wp2_with (first | (at_builtin; refine wpList_appI w2 rfl (.tmp 13) (.tmp 16) rfl w.heap.size w.heap.size w A2 k c2 _ _ _ _ rfl (HOW.out.ex HB2.out) HKL.out rfl (below_next0 HB.out HB2.out) (Nat.le_refl _) (below_next0 HB.out HB2.out).size (by omega) ?_; intro A3 c3 w3 hown3 hg3 hsz3 hb3) | fail)
      have HO3 := Lib.hid hown3; have HB3 := Lib.hid hb3
      clear hown3 hb3 hg3 hsz3
      go_wp2
      go_roundw
      case rel => exact ⟨k + 1, A3, c3, by omega, by go_num, rfl, by rw [HT.out]; exact HO3.out, HB3.out⟩
      case measure => simp [intOf]; omega
    · obtain rfl : k = ts.length := by omega
      have HO2 := Lib.hid hown; clear hown
      go_wp2
      go_ret
      exact ⟨A2, c2, rfl, by simpa using HO2.out, hb⟩
end Go.Proofs.YthpijecjifmnbaaDoor
