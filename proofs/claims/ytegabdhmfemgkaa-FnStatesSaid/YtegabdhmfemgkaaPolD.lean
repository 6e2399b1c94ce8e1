/-
States: isState of the program. Condition: the slices read as lists; valid ways.
-/
import Derived.Test.YtegabdhmfemgkaaPolC
namespace Go.Proofs.Ytegabdhmfemgkaa
open Go.RowKit
set_option linter.unusedVariables false

def stOk (halls : List Int) (ways : List (List Int)) (pl : List Int) : Bool := (List.range halls.length).all fun h => decide (cntF ways pl ways.length h ≤ halls.getD h 0)
def plFit (ways : List (List Int)) (pl : List Int) : Bool := (List.range ways.length).all fun k => inB (plc pl k) 0 (((ways.getD k []).length : Int) + 1)
def plOk (halls : List Int) (ways : List (List Int)) (pl : List Int) : Bool := decide (pl.length = ways.length) && plFit ways pl && stOk halls ways pl
def placesOk (halls : List Int) (ways : List (List Int)) (pl : List Int) : Bool := travOk halls ways && plOk halls ways pl
theorem stOk_no {halls : List Int} {ways : List (List Int)} {pl : List Int} {k : Nat} (hk : k < halls.length) (h : halls[k] < cntF ways pl ways.length k) : stOk halls ways pl = false := by
  unfold stOk
  rw [List.all_eq_false]
  exact ⟨k, List.mem_range.2 hk, by simp [List.getD_eq_getElem?_getD, hk]; omega⟩
theorem stOk_yes {halls : List Int} {ways : List (List Int)} {pl : List Int} (h : ∀ k (hk : k < halls.length), cntF ways pl ways.length k ≤ halls[k]) : stOk halls ways pl = true := by
  unfold stOk
  rw [List.all_eq_true]
  intro k hk
  have hk' := List.mem_range.1 hk
  have := h k hk'
  simp [List.getD_eq_getElem?_getD, hk']; omega
theorem plFit_no {ways : List (List Int)} {pl : List Int} {k : Nat} (hk : k < ways.length) (h : inB (plc pl k) 0 ((ways[k].length : Int) + 1) = false) : plFit ways pl = false := by
  unfold plFit
  rw [List.all_eq_false]
  exact ⟨k, List.mem_range.2 hk, by rw [show ways.getD k [] = ways[k] by simp [List.getD_eq_getElem?_getD, hk], h]; simp⟩
theorem plFit_yes {ways : List (List Int)} {pl : List Int} (h : ∀ k (hk : k < ways.length), inB (plc pl k) 0 ((ways[k].length : Int) + 1) = true) : plFit ways pl = true := by
  unfold plFit
  rw [List.all_eq_true]
  intro k hk
  have hk' := List.mem_range.1 hk
  rw [show ways.getD k [] = ways[k] by simp [List.getD_eq_getElem?_getD, hk'], h k hk']
theorem plFit_at {ways : List (List Int)} {pl : List Int} (h : plFit ways pl = true) {k : Nat} (hk : k < ways.length) : 0 ≤ plc pl k ∧ plc pl k ≤ (ways[k].length : Int) + 1 := by
  unfold plFit at h
  rw [List.all_eq_true] at h
  have := h k (List.mem_range.2 hk)
  rw [show ways.getD k [] = ways[k] by simp [List.getD_eq_getElem?_getD, hk]] at this
  exact inB_iff.1 this

set_option maxHeartbeats 1000000 in
theorem isState_any (v u : Value) (halls : List Int) (ways : List (List Int)) (most : Int) (pl : List Int) (w : World) (hv : SlI w v halls) (hu : SlII w u ways) (h6 : halls.length ≤ 6) (h4 : ways.length ≤ 4) (hway : ∀ way ∈ ways, wayOk halls.length way = true) :
    Calls Try.prog 102 #[.agg #[v, u, .int .i64 most], stV pl] w fun e w' => e = .returned (.bool (stOk halls ways pl)) ∧ Below w.heap.size w w' := by
  have HIN := fun (W : World) (hW : Below w.heap.size w W) => inHalls_any v u halls ways most pl W (hv.ex hW) (hu.ex hW) h6 h4 hway
  have HVV := Lib.hid hv
  obtain ⟨A, d, rfl, hla, ha⟩ := hv.op
  obtain ⟨B, f, rfl, hlb, hat⟩ := hu.op
  have HA := Lib.hid ha
  clear hv hu ha hat
  unfold stV at HIN ⊢
  have HB := Lib.hid (below_alloc2 w (.cells #[.slice A halls.length d, .slice B ways.length f, .int .i64 most] 69) (.cells #[.int .i64 (plc pl 0), .int .i64 (plc pl 1), .int .i64 (plc pl 2), .int .i64 (plc pl 3)] 86))
  have HQ := Lib.hid (boxT w (.slice A halls.length d) (.slice B ways.length f) most pl 69 86)
  have HIN2 := Lib.hid (HIN _ HB.out)
  clear HIN hway
  go_enter Try.func102, Try.ntmps102
  go_wp2_with fail
  refine HIN2.out.mono ?_
  rintro e w1 ⟨⟨A1, c1, rfl, hown⟩, hb1⟩
  have HOW := Lib.hid hown
  have HB1 := Lib.hid (below_next0 HB.out hb1)
  have hq1 := HQ.out.ex hb1
  have hc0 := hq1.c0
  have hc1 := hq1.c1
  clear hb1 hq1 HIN2 hown
  go_wp2
  go_loopw [17] (fun i wr => ∃ k : Nat, k ≤ halls.length ∧ i = .int .i64 k ∧ Hid (∀ j (hj : j < halls.length), j < k → cntF ways pl ways.length j ≤ halls[j]) ∧ w1 = wr) (fun i _ => halls.length - (intOf i).toNat)
  case atStart => exact ⟨0, Nat.zero_le _, rfl, Lib.hid (fun j _ h => absurd h (Nat.not_lt_zero _)), rfl⟩
  case round =>
    obtain ⟨k, hk, rfl, hall, rfl⟩ := hrel
    by_cases hlt : k < halls.length
    · have hki : (k : Int) < (halls.length : Int) := by omega
      obtain ⟨b, o, rfl, hbs, hcc⟩ := HA.out k hlt
      have hp := (HB1.out.cell (p := ⟨b, o + k, none⟩) hbs).trans (hcc k hlt)
      have hl := cntL_len halls.length ways pl ways.length
      have hsl := HOW.out.sl
      unfold SlI at hsl
      obtain ⟨A2, c2, hveq, _, ha2⟩ := SlI.op (v := .slice A1 halls.length c1) (xs := cntL halls.length ways pl ways.length) (w := w1) hsl
      injection hveq with hA2 hn2 hc2
      subst hA2 hc2
      clear hn2
      obtain ⟨b2, o2, rfl, hbs2, hcc2⟩ := ha2 k (by rw [hl]; exact hlt)
      have hp2 := hcc2 k (by rw [hl]; exact hlt)
      rw [cntL_get] at hp2
      have HN : Hid (halls[k] < cntF ways pl ways.length k → stOk halls ways pl = false) := Lib.hid (stOk_no hlt)
      have HY : Hid (cntF ways pl ways.length k ≤ halls[k] → ∀ j (hj : j < halls.length), j < k + 1 → cntF ways pl ways.length j ≤ halls[j]) := Lib.hid fun h j hj hjk => by
        by_cases e : j = k
        · subst e; exact h
        · exact hall.out j hj (by omega)
      generalize cntF ways pl ways.length k = x at hp2 HN HY
      generalize halls[k] = y at hp HN HY
      clear ha2 hcc2 hsl hcc hl
      by_cases hxy : y < x
      · have HF := Lib.hid (HN.out hxy)
        go_wp2
        go_ret
        exact ⟨ret_bool HF.out.symm, HB1.out⟩
      · have HF := Lib.hid (HY.out (by omega))
        go_wp2
        go_roundw
        case rel => exact ⟨k + 1, by omega, by go_num, HF, by first | trivial | rfl⟩
        case measure => simp [intOf]; omega
    · have hkn : k = halls.length := by omega
      have HF := Lib.hid (stOk_yes (fun j hj => hall.out j hj (by omega)))
      subst hkn
      go_wp2
      go_ret
      exact ⟨ret_bool HF.out.symm, HB1.out⟩
end Go.Proofs.Ytegabdhmfemgkaa
