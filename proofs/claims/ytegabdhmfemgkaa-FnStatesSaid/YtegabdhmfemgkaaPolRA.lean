/-
CountReached, FirstDeadlock, IsFree, MostAtOnce of the program: the walks. Condition: the slices read as lists.
-/
import Derived.Test.YtegabdhmfemgkaaPolY
import Derived.Test.YtegabdhmfemgkaaSrc
namespace Go.Proofs.Ytegabdhmfemgkaa
open Go.RowKit
set_option linter.unusedVariables false
set_option linter.unusedSimpArgs false

def cntR (halls : List Int) (ways : List (List Int)) : Int × Int := if travOk halls ways = true then (((reachT halls ways 4).length : Int), 0) else (0, 1)
def fdR (halls : List Int) (ways : List (List Int)) : List Int × Int := if travOk halls ways = true then (deadP halls ways 4, if (firstDead halls ways 4).isSome = true then 0 else 3) else ([], 1)
def ifR (halls : List Int) (ways : List (List Int)) : Bool × Int := if travOk halls ways = true then (!(firstDead halls ways 4).isSome, 0) else (false, 1)
def moR (halls : List Int) (ways : List (List Int)) : Int × Int := if travOk halls ways = true then ((mostF halls ways ways.length : Int), 0) else (0, 1)
theorem deadP_most {halls : List Int} {ways : List (List Int)} (h4 : ways.length ≤ 4) : deadP halls ways (ways.length : Int) = deadP halls ways 4 := by unfold deadP; rw [firstDead_most h4]
theorem deadP_none {halls : List Int} {ways : List (List Int)} {most : Int} (h : (firstDead halls ways most).isSome = false) : deadP halls ways most = [] := by
  unfold deadP
  cases hf : firstDead halls ways most with
  | none => rfl
  | some q => rw [hf] at h; cases h

set_option maxHeartbeats 2000000 in
theorem implCount_any (v u : Value) (halls : List Int) (ways : List (List Int)) (w : World) (hv : SlI w v halls) (hu : SlII w u ways) :
    Calls Try.prog 33 #[v, u] w fun e w' => e = .returned (.tuple #[.int .i64 (cntR halls ways).1, .int .i64 (cntR halls ways).2]) ∧ Below w.heap.size w w' := by
  have HV := Lib.hid hv; have HU := Lib.hid hu
  obtain ⟨A, d, rfl, hla, ha⟩ := hv.op
  obtain ⟨B, e, rfl, hlb, hat⟩ := hu.op
  clear hv hu ha hat
  have HR : Hid (cntR halls ways = if travOk halls ways = true then (((reachT halls ways 4).length : Int), 0) else (0, 1)) := Lib.hid rfl
  go_enter Try.func33, Try.ntmps33
  go_wp2_with fail
  refine (validTravels_any _ _ halls ways _ HV.out HU.out).mono ?_
  rintro e1 w1 ⟨rfl, hb1⟩
  have HB1 := Lib.hid hb1
  clear hb1
  cases ht : travOk halls ways with
  | false =>
    have E : Hid (cntR halls ways = (0, 1)) := Lib.hid (by rw [HR.out, ht]; rfl)
    clear ht
    go_wp2
    go_ret2
    rw [E.out]
    exact ⟨rfl, HB1.out⟩
  | true =>
    have HTR := Lib.hid ht
    obtain ⟨_, _, h4, _⟩ := travOk_at ht
    have E : Hid (cntR halls ways = (((reachT halls ways (ways.length : Int)).length : Int), 0)) := Lib.hid (by rw [HR.out, ht, reachT_most h4]; rfl)
    clear ht
    go_wp2_with fail
    refine (newTravels_any _ _ halls ways _ (HV.out.ex HB1.out) (HU.out.ex HB1.out)).mono ?_
    rintro e2 w2 ⟨rfl, hb2⟩
    have HB2 := Lib.hid (below_next0 HB1.out hb2)
    clear hb2
    go_wp2_with fail
    refine (reached_any _ _ halls ways _ _ (HV.out.ex HB2.out) (HU.out.ex HB2.out) HTR.out).mono ?_
    rintro e3 w3 ⟨A4, A5, c4, c5, us, rfl, -, -, -, -, hb3⟩
    have HB3 := Lib.hid (below_next0 HB2.out hb3)
    clear hb3
    generalize (reachT halls ways (ways.length : Int)).length = n at E
    go_wp2
    go_ret2
    rw [E.out]
    exact ⟨rfl, HB3.out⟩

set_option maxHeartbeats 2000000 in
theorem implFirst_any (v u : Value) (halls : List Int) (ways : List (List Int)) (w : World) (hv : SlI w v halls) (hu : SlII w u ways) :
    Calls Try.prog 49 #[v, u] w fun e w' => ∃ A c, e = .returned (.tuple #[.slice A (fdR halls ways).1.length c, .int .i64 (fdR halls ways).2]) ∧ OwI w' w.heap.size (.slice A (fdR halls ways).1.length c) (fdR halls ways).1 ∧ Below w.heap.size w w' := by
  have HV := Lib.hid hv; have HU := Lib.hid hu
  obtain ⟨A, d, rfl, hla, ha⟩ := hv.op
  obtain ⟨B, e, rfl, hlb, hat⟩ := hu.op
  clear hv hu ha hat
  have HR : Hid (fdR halls ways = if travOk halls ways = true then (deadP halls ways 4, if (firstDead halls ways 4).isSome = true then 0 else 3) else ([], 1)) := Lib.hid rfl
  have HNIL : Hid (∀ W : World, OwI W w.heap.size (.slice none 0 0) []) := Lib.hid fun W => ⟨World.ownsRow_nil _ _ _ _, by simp⟩
  go_enter Try.func49, Try.ntmps49
  go_wp2_with fail
  refine (validTravels_any _ _ halls ways _ HV.out HU.out).mono ?_
  rintro e1 w1 ⟨rfl, hb1⟩
  have HB1 := Lib.hid hb1
  clear hb1
  cases ht : travOk halls ways with
  | false =>
    have E : Hid (fdR halls ways = ([], 1)) := Lib.hid (by rw [HR.out, ht]; rfl)
    clear ht
    go_wp2
    go_ret2
    rw [E.out]
    exact ⟨none, 0, rfl, HNIL.out _, HB1.out⟩
  | true =>
    have HTR := Lib.hid ht
    obtain ⟨_, _, h4, _⟩ := travOk_at ht
    have HD := Lib.hid (deadlock_any (.slice A halls.length d) (.slice B ways.length e) halls ways (ways.length : Int))
    have E : Hid (fdR halls ways = (deadP halls ways (ways.length : Int), if (firstDead halls ways (ways.length : Int)).isSome = true then 0 else 3)) := Lib.hid (by rw [HR.out, ht, firstDead_most h4, deadP_most h4]; rfl)
    have HN := Lib.hid (@deadP_none halls ways (ways.length : Int))
    clear ht
    generalize deadP halls ways (ways.length : Int) = ps at E HD HN
    generalize (firstDead halls ways (ways.length : Int)).isSome = b at E HD HN
    go_wp2_with fail
    refine (newTravels_any _ _ halls ways _ (HV.out.ex HB1.out) (HU.out.ex HB1.out)).mono ?_
    rintro e2 w2 ⟨rfl, hb2⟩
    have HB2 := Lib.hid (below_next0 HB1.out hb2)
    clear hb2
    go_wp2_with fail
    refine (HD.out _ (HV.out.ex HB2.out) (HU.out.ex HB2.out) HTR.out).mono ?_
    rintro e3 w3 ⟨A3, c3, rfl, ho3, hb3⟩
    have HB3 := Lib.hid (below_next0 HB2.out hb3)
    have HO3 := Lib.hid (ho3.mono HB2.out.size)
    clear hb3 ho3
    cases b with
    | false =>
      go_wp2
      go_ret2
      rw [E.out, HN.out (by first | rfl | trivial)]
      exact ⟨none, 0, rfl, HNIL.out _, HB3.out⟩
    | true =>
      go_wp2
      go_ret2
      rw [E.out]
      exact ⟨A3, c3, rfl, HO3.out, HB3.out⟩

set_option maxHeartbeats 2000000 in
theorem implFree_any (v u : Value) (halls : List Int) (ways : List (List Int)) (w : World) (hv : SlI w v halls) (hu : SlII w u ways) :
    Calls Try.prog 24 #[v, u] w fun e w' => e = .returned (.tuple #[.bool (ifR halls ways).1, .int .i64 (ifR halls ways).2]) ∧ Below w.heap.size w w' := by
  have HV := Lib.hid hv; have HU := Lib.hid hu
  obtain ⟨A, d, rfl, hla, ha⟩ := hv.op
  obtain ⟨B, e, rfl, hlb, hat⟩ := hu.op
  clear hv hu ha hat
  have HR : Hid (ifR halls ways = if travOk halls ways = true then (!(firstDead halls ways 4).isSome, 0) else (false, 1)) := Lib.hid rfl
  go_enter Try.func24, Try.ntmps24
  go_wp2_with fail
  refine (validTravels_any _ _ halls ways _ HV.out HU.out).mono ?_
  rintro e1 w1 ⟨rfl, hb1⟩
  have HB1 := Lib.hid hb1
  clear hb1
  cases ht : travOk halls ways with
  | false =>
    have E : Hid (ifR halls ways = (false, 1)) := Lib.hid (by rw [HR.out, ht]; rfl)
    clear ht
    go_wp2
    go_ret2
    rw [E.out]
    exact ⟨rfl, HB1.out⟩
  | true =>
    have HTR := Lib.hid ht
    obtain ⟨_, _, h4, _⟩ := travOk_at ht
    have HD := Lib.hid (deadlock_any (.slice A halls.length d) (.slice B ways.length e) halls ways (ways.length : Int))
    have E : Hid (ifR halls ways = (!(firstDead halls ways (ways.length : Int)).isSome, 0)) := Lib.hid (by rw [HR.out, ht, firstDead_most h4]; rfl)
    clear ht
    generalize deadP halls ways (ways.length : Int) = ps at HD
    generalize (firstDead halls ways (ways.length : Int)).isSome = b at E HD
    go_wp2_with fail
    refine (newTravels_any _ _ halls ways _ (HV.out.ex HB1.out) (HU.out.ex HB1.out)).mono ?_
    rintro e2 w2 ⟨rfl, hb2⟩
    have HB2 := Lib.hid (below_next0 HB1.out hb2)
    clear hb2
    go_wp2_with fail
    refine (HD.out _ (HV.out.ex HB2.out) (HU.out.ex HB2.out) HTR.out).mono ?_
    rintro e3 w3 ⟨A3, c3, rfl, ho3, hb3⟩
    have HB3 := Lib.hid (below_next0 HB2.out hb3)
    clear hb3 ho3
    go_wp2
    go_ret2
    rw [E.out]
    exact ⟨rfl, HB3.out⟩

def mAt (g : Nat) (w : World) : Nat := match w.cell? ⟨g, 2, none⟩ with
  | some v => (intOf v).toNat
  | none => 0
theorem mAt_eq {g : Nat} {w : World} {k : Nat} (h : w.cell? ⟨g, 2, none⟩ = some (.int .i64 (k : Int))) : mAt g w = k := by unfold mAt; rw [h]; simp [intOf]
theorem mostF_no {halls : List Int} {ways : List (List Int)} {n : Nat} (h : (firstDead halls ways ((n + 1 : Nat) : Int)).isSome = false) : mostF halls ways (n + 1) = n + 1 := by
  unfold mostF deadB; rw [h]; rfl
theorem mostF_yes {halls : List Int} {ways : List (List Int)} {n : Nat} (h : (firstDead halls ways ((n + 1 : Nat) : Int)).isSome = true) : mostF halls ways (n + 1) = mostF halls ways n := by
  rw [mostF]; unfold deadB; rw [h]; rfl
set_option maxRecDepth 100000 in
set_option maxHeartbeats 4000000 in
theorem implMost_any (v u : Value) (halls : List Int) (ways : List (List Int)) (w : World) (hv : SlI w v halls) (hu : SlII w u ways) :
    Calls Try.prog 23 #[v, u] w fun e w' => e = .returned (.tuple #[.int .i64 (moR halls ways).1, .int .i64 (moR halls ways).2]) ∧ Below w.heap.size w w' := by
  have HV := Lib.hid hv; have HU := Lib.hid hu
  obtain ⟨A, d, rfl, hla, ha⟩ := hv.op
  obtain ⟨B, e, rfl, hlb, hat⟩ := hu.op
  clear hv hu ha hat
  have HR : Hid (moR halls ways = if travOk halls ways = true then ((mostF halls ways ways.length : Int), 0) else (0, 1)) := Lib.hid rfl
  go_enter Try.func23, Try.ntmps23
  go_wp2_with fail
  refine (validTravels_any _ _ halls ways _ HV.out HU.out).mono ?_
  rintro e1 w1 ⟨rfl, hb1⟩
  have HB1 := Lib.hid hb1
  clear hb1
  cases ht : travOk halls ways with
  | false =>
    have E : Hid (moR halls ways = (0, 1)) := Lib.hid (by rw [HR.out, ht]; rfl)
    clear ht
    go_wp2
    go_ret2
    rw [E.out]
    exact ⟨rfl, HB1.out⟩
  | true =>
    have HTR := Lib.hid ht
    obtain ⟨_, _, h4, _⟩ := travOk_at ht
    have HD := Lib.hid (fun (k : Nat) => deadlock_any (.slice A halls.length d) (.slice B ways.length e) halls ways (k : Int))
    have E : Hid (moR halls ways = ((mostF halls ways ways.length : Int), 0)) := Lib.hid (by rw [HR.out, ht]; rfl)
    have HNO := Lib.hid (fun n => @mostF_no halls ways n)
    have HYE := Lib.hid (fun n => @mostF_yes halls ways n)
    have HZE : Hid (mostF halls ways 0 = 0) := Lib.hid rfl
    clear ht
    go_wp2_with fail
    refine (newTravels_any _ _ halls ways _ (HV.out.ex HB1.out) (HU.out.ex HB1.out)).mono ?_
    rintro e2 w2 ⟨rfl, hb2⟩
    have HB2 := Lib.hid (below_next0 HB1.out hb2)
    clear hb2
    have HT2 := Lib.hid (Ow.lay w2 (lo := w.heap.size) (sz := 3) 69 #[.slice A halls.length d, .slice B ways.length e, .int .i64 (ways.length : Int)] 1 HB2.out.size (by omega) rfl)
    have HB3 := Lib.hid (below_next0 HB2.out (below_alloc w2 (.cells #[.slice A halls.length d, .slice B ways.length e, .int .i64 (ways.length : Int)] 69)))
    go_wp2
    go_loopw [7] (fun _ wr => ∃ k : Nat, k ≤ ways.length ∧ Hid (mostF halls ways ways.length = mostF halls ways k) ∧ Hid (Ow wr w.heap.size 69 3 (.slice (some ⟨w2.heap.size, 0, none⟩) 1 1) 1 [.slice A halls.length d, .slice B ways.length e, .int .i64 (k : Int)]) ∧ Hid (Below w.heap.size w wr)) (fun _ wr => mAt w2.heap.size wr)
    case atStart => exact ⟨ways.length, Nat.le_refl _, Lib.hid rfl, HT2, HB3⟩
    case round =>
      clear HT2 HB3
      obtain ⟨k, hk, HM, HT, HB⟩ := hrel
      have hc0 := Ow.cell HT.out (k := 0) (by simp); have hc1 := Ow.cell HT.out (k := 1) (by simp); have hc2 := Ow.cell HT.out (k := 2) (by simp)
      simp only [List.getElem_cons_zero, List.getElem_cons_succ] at hc0 hc1 hc2
      have HME := Lib.hid (mAt_eq hc2)
      by_cases h0 : 0 < k
      · have hki : (0 : Int) < (k : Int) := by omega
        obtain ⟨j, rfl⟩ : ∃ j, k = j + 1 := ⟨k - 1, by omega⟩
        have HDK := Lib.hid (HD.out (j + 1) wr (HV.out.ex HB.out) (HU.out.ex HB.out) HTR.out)
        have HNK := Lib.hid (HNO.out j); have HYK := Lib.hid (HYE.out j)
        generalize deadP halls ways ((j + 1 : Nat) : Int) = ps at HDK
        generalize (firstDead halls ways ((j + 1 : Nat) : Int)).isSome = b at HDK HNK HYK
        go_wp2_with fail
        refine HDK.out.mono ?_
        rintro e3 w3 ⟨A3, c3, rfl, ho3, hb3⟩
        have HB3 := Lib.hid (below_next0 HB.out hb3)
        have HT3 := Lib.hid (HT.out.ex hb3)
        have hx2 := Ow.cell HT3.out (k := 2) (by simp)
        have hf2 := Ow.free HT3.out 2
        simp only [List.getElem_cons_zero, List.getElem_cons_succ] at hx2
        clear hb3 ho3 hc0 hc1 hc2
        cases b with
        | false =>
          go_wp2
          go_ret2
          rw [E.out, HM.out, HNK.out (by first | rfl | trivial)]
          exact ⟨rfl, HB3.out⟩
        | true =>
          have HT4 : Hid (Ow (w3.setCell ⟨w2.heap.size, 2, none⟩ (.int .i64 (j : Int))) w.heap.size 69 3 (.slice (some ⟨w2.heap.size, 0, none⟩) 1 1) 1 [.slice A halls.length d, .slice B ways.length e, .int .i64 (j : Int)]) := Lib.hid (Ow.set HT3.out 2 (.int .i64 (j : Int)))
          have HB4 := Lib.hid (below_own HB3.out HT3.out (Ow.grow (k := 2) HT3.out (.int .i64 (j : Int))) HB3.out.size (Nat.le_refl _))
          have HM4 : Hid (mostF halls ways ways.length = mostF halls ways j) := Lib.hid (HM.out.trans (HYK.out (by first | rfl | trivial)))
          have hjj : ((j + 1 : Nat) : Int) - 1 = (j : Int) := by omega
          have HC4 := Lib.hid (mAt_eq (g := w2.heap.size) (w := w3.setCell ⟨w2.heap.size, 2, none⟩ (.int .i64 (j : Int))) (k := j) (by have h9 := Ow.cell HT4.out (k := 2) (by simp); simpa using h9))
          go_wp2
          go_roundw
          case rel => exact ⟨j, by omega, HM4, HT4, HB4⟩
          case measure => rw [HC4.out, HME.out]; omega
      · obtain rfl : k = 0 := by omega
        go_wp2
        go_ret2
        rw [E.out, HM.out, HZE.out]
        exact ⟨rfl, HB.out⟩
end Go.Proofs.Ytegabdhmfemgkaa
