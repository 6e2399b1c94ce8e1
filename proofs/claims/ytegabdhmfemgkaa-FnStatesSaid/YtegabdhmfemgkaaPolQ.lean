/-
IsSafe and SafeMoves of the program. Condition: the slices read as lists.
-/
import Derived.Test.YtegabdhmfemgkaaPolP
namespace Go.Proofs.Ytegabdhmfemgkaa
open Go.RowKit
set_option linter.unusedVariables false

def safeR (halls : List Int) (ways : List (List Int)) (pl : List Int) : Bool × Int :=
  if travOk halls ways = true then (if plOk halls ways pl = true then (safeT halls ways pl, 0) else (false, 2)) else (false, 1)
def safeMR (halls : List Int) (ways : List (List Int)) (pl : List Int) : List Int × Int :=
  if travOk halls ways = true then (if plOk halls ways pl = true then (safeMT halls ways pl, 0) else ([], 2)) else ([], 1)

set_option maxRecDepth 100000 in
set_option maxHeartbeats 2000000 in
theorem implIsSafe_any (v u r : Value) (halls : List Int) (ways : List (List Int)) (pl : List Int) (w : World) (hv : SlI w v halls) (hu : SlII w u ways) (hr : SlI w r pl) :
    Calls Try.prog 35 #[v, u, r] w fun e w' => e = .returned (.tuple #[.bool (safeR halls ways pl).1, .int .i64 (safeR halls ways pl).2]) ∧ Below w.heap.size w w' := by
  have HV := Lib.hid hv; have HU := Lib.hid hu; have HR := Lib.hid hr
  obtain ⟨A, d, rfl, hla, ha⟩ := hv.op
  obtain ⟨B, f, rfl, hlb, hat⟩ := hu.op
  obtain ⟨R, g, rfl, hlr, hrt⟩ := hr.op
  clear hv hu hr ha hat hrt
  have HC : Hid (codePl halls ways pl = if travOk halls ways = true then (if plOk halls ways pl = true then 0 else 2) else 1) := Lib.hid rfl
  have HN : Hid (safeR halls ways pl = if travOk halls ways = true then (if plOk halls ways pl = true then (safeT halls ways pl, 0) else (false, 2)) else (false, 1)) := Lib.hid rfl
  have hmm := @run_makeMap Try.prog
  go_enter Try.func35, Try.ntmps35
  go_wp2_with fail
  refine (placesCode_any _ _ _ halls ways pl _ HV.out HU.out HR.out).mono ?_
  rintro e w1 ⟨rfl, hb1⟩
  have HB1 := Lib.hid hb1
  clear hb1
  cases ht : travOk halls ways with
  | false =>
    have HN2 : Hid (safeR halls ways pl = (false, 1)) := Lib.hid (by rw [HN.out, ht]; rfl)
    rw [show codePl halls ways pl = 1 by rw [HC.out, ht]; rfl]
    clear ht
    go_wp2
    go_ret2
    rw [HN2.out]
    exact ⟨rfl, HB1.out⟩
  | true =>
    cases hp : plOk halls ways pl with
    | false =>
      have HN2 : Hid (safeR halls ways pl = (false, 2)) := Lib.hid (by rw [HN.out, ht, hp]; rfl)
      rw [show codePl halls ways pl = 2 by rw [HC.out, ht, hp]; rfl]
      clear ht hp
      go_wp2
      go_ret2
      rw [HN2.out]
      exact ⟨rfl, HB1.out⟩
    | true =>
      obtain ⟨hlen, hp0⟩ := plOk_at ht hp
      obtain ⟨⟨-, h6⟩, -, h4, hway⟩ := travOk_at ht
      have HN2 : Hid (safeR halls ways pl = (safeT halls ways pl, 0)) := Lib.hid (by rw [HN.out, ht, hp]; rfl)
      have HC2 : Hid (codePl halls ways pl = 0) := Lib.hid (by rw [HC.out, ht, hp]; rfl)
      have HSO := Lib.hid fun (W : World) (hW : Below w.heap.size w W) => stateOf_any _ _ _ halls ways (ways.length : Int) pl W (HV.out.ex hW) (HU.out.ex hW) (HR.out.ex hW) h6 h4 hway
      have HPK := Lib.hid hp
      have HGD := Lib.hid (plOk_good hp)
      have HTR := Lib.hid ht
      have HFE : Hid (FOk halls ways (fun _ => none)) := Lib.hid (fun s _ y hy => by cases hy)
      clear ht hp hlen hp0 hway
      rw [HC2.out]
      go_wp2_with fail
      refine (newTravels_any _ _ halls ways _ (HV.out.ex HB1.out) (HU.out.ex HB1.out)).mono ?_
      rintro e w2 ⟨rfl, hb2⟩
      have HB2 := Lib.hid (below_next0 HB1.out hb2)
      clear hb2
      have HB3 := Lib.hid (below_next0 HB2.out (below_alloc w2 (.cells #[.slice A halls.length d, .slice B ways.length f, .int .i64 (ways.length : Int)] 69)))
      have HX3 := Lib.hid (Box3.new w2 (.slice A halls.length d) (.slice B ways.length f) (.int .i64 (ways.length : Int)) 69)
      go_wp2_with fail
      refine (HSO.out _ HB3.out).mono ?_
      rintro e w3 ⟨⟨a0, a1, a2, a3, rfl, hst⟩, hb3⟩
      have hst2 := hst HPK.out
      unfold stV at hst2
      simp only [Value.agg.injEq, Array.mk.injEq, List.cons.injEq, Value.int.injEq, true_and, and_true] at hst2
      obtain ⟨rfl, rfl, rfl, rfl⟩ := hst2
      have HB4 := Lib.hid (below_next0 HB3.out hb3)
      have hx4 := HX3.out.exB hb3 HX3.out.lt
      have hS4 := Four.new w3 (plc pl) 86
      have hbA := below_alloc w3 (.cells #[.int .i64 (plc pl 0), .int .i64 (plc pl 1), .int .i64 (plc pl 2), .int .i64 (plc pl 3)] 86)
      have hbE := below_alloc (w3.alloc (.cells #[.int .i64 (plc pl 0), .int .i64 (plc pl 1), .int .i64 (plc pl 2), .int .i64 (plc pl 3)] 86)) (.map #[] 0)
      have hx5 := hx4.exB (hbA.trans (hbE.mono (by simp))) hx4.lt
      have hS5 := hS4.exB hbE hS4.lt
      have hc0 := hx5.c0; have hc1 := hx5.c1; have hc2 := hx5.c2
      have hs0 := hS5.c 0 (by omega); have hs1 := hS5.c 1 (by omega); have hs2 := hS5.c 2 (by omega); have hs3 := hS5.c 3 (by omega)
      have hq4 := hx4.exB hbA hx4.lt
      have hd0 := hq4.c0; have hd1 := hq4.c1; have hd2 := hq4.c2
      have ht0 := hS4.c 0 (by omega); have ht1 := hS4.c 1 (by omega); have ht2 := hS4.c 2 (by omega); have ht3 := hS4.c 3 (by omega)
      have HB5 := Lib.hid (below_next0 (below_next0 HB4.out hbA) hbE)
      have HMP : Hid (MapB (lensW ways) ((w3.alloc (.cells #[.int .i64 (plc pl 0), .int .i64 (plc pl 1), .int .i64 (plc pl 2), .int .i64 (plc pl 3)] 86)).alloc (.map #[] 0)) (w3.heap.size + 1) 0 (fun _ => none)) := Lib.hid (by
        have h := mapB_made (lensW ways) (w3.alloc (.cells #[.int .i64 (plc pl 0), .int .i64 (plc pl 1), .int .i64 (plc pl 2), .int .i64 (plc pl 3)] 86))
        rwa [show (w3.alloc (.cells #[.int .i64 (plc pl 0), .int .i64 (plc pl 1), .int .i64 (plc pl 2), .int .i64 (plc pl 3)] 86)).heap.size = w3.heap.size + 1 by simp] at h)
      have HLO : Hid (w.heap.size ≤ w3.heap.size + 1) := Lib.hid (by have := HB4.out.size; omega)
      have hM := isSafe_any _ _ halls ways w HV.out HU.out HTR.out (w3.heap.size + 1) HLO.out 25 pl HGD.out (by have := (HGD.out.sum (lens5 HTR.out) (lens4 HTR.out)).1; omega) _ 0 _ HB5.out HMP.out HFE.out (by have := cntT25; omega)
      unfold stV at hM
      have HM := Lib.hid hM
      clear hM
      clear hst hb3 hx4 hS4 hbA hbE hx5 hS5 hq4
      go_wp2_with fail
      refine HM.out.mono ?_
      rintro e w4 ⟨n4, f4, rfl, -, -, -, hg4⟩
      have HB6 : Hid (Below w.heap.size w w4) := Lib.hid (HB5.out.trans (hg4.below (fun j _ hj => by rw [hj]; exact HLO.out) HB5.out.size))
      clear hg4
      go_wp2
      go_ret2
      rw [HN2.out]
      exact ⟨rfl, HB6.out⟩

set_option maxRecDepth 100000 in
set_option maxHeartbeats 2000000 in
theorem implSafeMoves_any (v u r : Value) (halls : List Int) (ways : List (List Int)) (pl : List Int) (w : World) (hv : SlI w v halls) (hu : SlII w u ways) (hr : SlI w r pl) :
    Calls Try.prog 36 #[v, u, r] w fun e w' => ∃ A c, e = .returned (.tuple #[.slice A (safeMR halls ways pl).1.length c, .int .i64 (safeMR halls ways pl).2]) ∧ OwI w' w.heap.size (.slice A (safeMR halls ways pl).1.length c) (safeMR halls ways pl).1 ∧ Below w.heap.size w w' := by
  have HV := Lib.hid hv; have HU := Lib.hid hu; have HR := Lib.hid hr
  obtain ⟨A, d, rfl, hla, ha⟩ := hv.op
  obtain ⟨B, f, rfl, hlb, hat⟩ := hu.op
  obtain ⟨R, g, rfl, hlr, hrt⟩ := hr.op
  clear hv hu hr ha hat hrt
  have HC : Hid (codePl halls ways pl = if travOk halls ways = true then (if plOk halls ways pl = true then 0 else 2) else 1) := Lib.hid rfl
  have HN : Hid (safeMR halls ways pl = if travOk halls ways = true then (if plOk halls ways pl = true then (safeMT halls ways pl, 0) else ([], 2)) else ([], 1)) := Lib.hid rfl
  have HNIL : Hid (∀ W : World, OwI W w.heap.size (.slice none 0 0) []) := Lib.hid fun W => ⟨World.ownsRow_nil _ _ _ _, by simp⟩
  have hmm := @run_makeMap Try.prog
  go_enter Try.func36, Try.ntmps36
  go_wp2_with fail
  refine (placesCode_any _ _ _ halls ways pl _ HV.out HU.out HR.out).mono ?_
  rintro e w1 ⟨rfl, hb1⟩
  have HB1 := Lib.hid hb1
  clear hb1
  cases ht : travOk halls ways with
  | false =>
    have HN2 : Hid (safeMR halls ways pl = ([], 1)) := Lib.hid (by rw [HN.out, ht]; rfl)
    rw [show codePl halls ways pl = 1 by rw [HC.out, ht]; rfl]
    clear ht
    go_wp2
    go_ret2
    rw [HN2.out]
    exact ⟨none, 0, rfl, HNIL.out _, HB1.out⟩
  | true =>
    cases hp : plOk halls ways pl with
    | false =>
      have HN2 : Hid (safeMR halls ways pl = ([], 2)) := Lib.hid (by rw [HN.out, ht, hp]; rfl)
      rw [show codePl halls ways pl = 2 by rw [HC.out, ht, hp]; rfl]
      clear ht hp
      go_wp2
      go_ret2
      rw [HN2.out]
      exact ⟨none, 0, rfl, HNIL.out _, HB1.out⟩
    | true =>
      obtain ⟨hlen, hp0⟩ := plOk_at ht hp
      obtain ⟨⟨-, h6⟩, -, h4, hway⟩ := travOk_at ht
      have HN2 : Hid (safeMR halls ways pl = (safeMT halls ways pl, 0)) := Lib.hid (by rw [HN.out, ht, hp]; rfl)
      have HC2 : Hid (codePl halls ways pl = 0) := Lib.hid (by rw [HC.out, ht, hp]; rfl)
      have HSO := Lib.hid fun (W : World) (hW : Below w.heap.size w W) => stateOf_any _ _ _ halls ways (ways.length : Int) pl W (HV.out.ex hW) (HU.out.ex hW) (HR.out.ex hW) h6 h4 hway
      have HPK := Lib.hid hp
      have HGD := Lib.hid (plOk_good hp)
      have HTR := Lib.hid ht
      have HFE : Hid (FOk halls ways (fun _ => none)) := Lib.hid (fun s _ y hy => by cases hy)
      clear ht hp hlen hp0 hway
      rw [HC2.out]
      go_wp2_with fail
      refine (newTravels_any _ _ halls ways _ (HV.out.ex HB1.out) (HU.out.ex HB1.out)).mono ?_
      rintro e w2 ⟨rfl, hb2⟩
      have HB2 := Lib.hid (below_next0 HB1.out hb2)
      clear hb2
      have HB3 := Lib.hid (below_next0 HB2.out (below_alloc w2 (.cells #[.slice A halls.length d, .slice B ways.length f, .int .i64 (ways.length : Int)] 69)))
      have HX3 := Lib.hid (Box3.new w2 (.slice A halls.length d) (.slice B ways.length f) (.int .i64 (ways.length : Int)) 69)
      go_wp2_with fail
      refine (HSO.out _ HB3.out).mono ?_
      rintro e w3 ⟨⟨a0, a1, a2, a3, rfl, hst⟩, hb3⟩
      have hst2 := hst HPK.out
      unfold stV at hst2
      simp only [Value.agg.injEq, Array.mk.injEq, List.cons.injEq, Value.int.injEq, true_and, and_true] at hst2
      obtain ⟨rfl, rfl, rfl, rfl⟩ := hst2
      have HB4 := Lib.hid (below_next0 HB3.out hb3)
      have hx4 := HX3.out.exB hb3 HX3.out.lt
      have hS4 := Four.new w3 (plc pl) 86
      have hbA := below_alloc w3 (.cells #[.int .i64 (plc pl 0), .int .i64 (plc pl 1), .int .i64 (plc pl 2), .int .i64 (plc pl 3)] 86)
      have hbE := below_alloc (w3.alloc (.cells #[.int .i64 (plc pl 0), .int .i64 (plc pl 1), .int .i64 (plc pl 2), .int .i64 (plc pl 3)] 86)) (.map #[] 0)
      have hx5 := hx4.exB (hbA.trans (hbE.mono (by simp))) hx4.lt
      have hS5 := hS4.exB hbE hS4.lt
      have hc0 := hx5.c0; have hc1 := hx5.c1; have hc2 := hx5.c2
      have hs0 := hS5.c 0 (by omega); have hs1 := hS5.c 1 (by omega); have hs2 := hS5.c 2 (by omega); have hs3 := hS5.c 3 (by omega)
      have hq4 := hx4.exB hbA hx4.lt
      have hd0 := hq4.c0; have hd1 := hq4.c1; have hd2 := hq4.c2
      have ht0 := hS4.c 0 (by omega); have ht1 := hS4.c 1 (by omega); have ht2 := hS4.c 2 (by omega); have ht3 := hS4.c 3 (by omega)
      have HB5 := Lib.hid (below_next0 (below_next0 HB4.out hbA) hbE)
      have HMP : Hid (MapB (lensW ways) ((w3.alloc (.cells #[.int .i64 (plc pl 0), .int .i64 (plc pl 1), .int .i64 (plc pl 2), .int .i64 (plc pl 3)] 86)).alloc (.map #[] 0)) (w3.heap.size + 1) 0 (fun _ => none)) := Lib.hid (by
        have h := mapB_made (lensW ways) (w3.alloc (.cells #[.int .i64 (plc pl 0), .int .i64 (plc pl 1), .int .i64 (plc pl 2), .int .i64 (plc pl 3)] 86))
        rwa [show (w3.alloc (.cells #[.int .i64 (plc pl 0), .int .i64 (plc pl 1), .int .i64 (plc pl 2), .int .i64 (plc pl 3)] 86)).heap.size = w3.heap.size + 1 by simp] at h)
      have HLO : Hid (w.heap.size ≤ w3.heap.size + 1) := Lib.hid (by have := HB4.out.size; omega)
      have hM := safeMoves_any _ _ halls ways w HV.out HU.out HTR.out (w3.heap.size + 1) HLO.out pl HGD.out _ 0 _ HB5.out HMP.out HFE.out (by have := cntT25; omega)
      unfold stV at hM
      have HM := Lib.hid hM
      clear hM
      clear hst hb3 hx4 hS4 hbA hbE hx5 hS5 hq4
      go_wp2_with fail
      refine HM.out.mono ?_
      rintro e w4 ⟨A4, c4, n4, f4, rfl, hown, -, -, -, hg4⟩
      have HB6 : Hid (Below w.heap.size w w4) := Lib.hid (HB5.out.trans (hg4.below (fun j _ hj => by rw [hj]; exact HLO.out) HB5.out.size))
      have HO6 : Hid (OwI w4 w.heap.size (.slice A4 (safeMT halls ways pl).length c4) (safeMT halls ways pl)) := Lib.hid (hown.mono HB5.out.size)
      clear hg4 hown
      go_wp2
      go_ret2
      rw [HN2.out]
      exact ⟨A4, c4, rfl, HO6.out, HB6.out⟩

end Go.Proofs.Ytegabdhmfemgkaa
