/-
MostAtOnce of the reference: the walk. Condition: the slices read as lists.
-/
import Derived.Test.YtegabdhmfemgkaaPolRC
namespace Go.Proofs.Ytegabdhmfemgkaa
open Go.RowKit
set_option linter.unusedVariables false
set_option linter.unusedSimpArgs false

theorem l00Min_pol (x y : Int) (w : World) : Calls Try.prog 68 #[.int .i64 x, .int .i64 y] w fun e w' => e = .returned (.int .i64 (min x y)) ∧ w = w' := by
  go_enter Try.func68, Try.ntmps68
  go_wp2
  all_goals go_ret
  all_goals exact ⟨ret_int (by omega), rfl⟩
set_option maxRecDepth 100000 in
set_option maxHeartbeats 4000000 in
theorem specMost_any (v u : Value) (halls : List Int) (ways : List (List Int)) (w : World) (hv : SlI w v halls) (hu : SlII w u ways) :
    Calls Try.prog 25 #[v, u] w fun e w' => e = .returned (.tuple #[.int .i64 (moR halls ways).1, .int .i64 (moR halls ways).2]) ∧ Below w.heap.size w w' := by
  have HV := Lib.hid hv; have HU := Lib.hid hu
  obtain ⟨B, d, rfl, hlb, hat⟩ := hu.op
  clear hat
  clear hv hu
  have HR : Hid (moR halls ways = if travOk halls ways = true then ((mostF halls ways ways.length : Int), 0) else (0, 1)) := Lib.hid rfl
  go_enter Try.func25, Try.ntmps25
  go_wp2_with fail
  refine (l12Ok_any _ _ halls ways _ HV.out HU.out).mono ?_
  rintro e1 w1 ⟨rfl, hb1⟩
  have HB1 := Lib.hid hb1
  clear hb1
  cases ht : travOk halls ways with
  | false =>
    have E : Hid (moR halls ways = (0, 1)) := Lib.hid (by rw [HR.out, ht]; rfl)
    clear ht
    go_wp2
    go_ret2
    rw [E.out]
    exact ⟨rfl, HB1.out⟩
  | true =>
    have HTR := Lib.hid ht
    obtain ⟨-, -, h4, -⟩ := travOk_at ht
    have E : Hid (moR halls ways = ((mostF halls ways ways.length : Int), 0)) := Lib.hid (by rw [HR.out, ht]; rfl)
    have HNO := Lib.hid (fun n => @mostF_no halls ways n)
    have HYE := Lib.hid (fun n => @mostF_yes halls ways n)
    have HZE : Hid (mostF halls ways 0 = 0) := Lib.hid rfl
    have HON := Lib.hid (mostF_one ht)
    clear ht
    generalize mostF halls ways = mf at E HNO HYE HZE HON
    go_wp2
    go_loopw [6] (fun v6 wr => ∃ k : Nat, v6 = .int .i64 k ∧ k ≤ ways.length ∧ Hid (0 < k ∨ ways.length = 0) ∧ Hid (mf ways.length = mf k) ∧ Hid (Below w.heap.size w wr)) (fun v6 _ => (intOf v6).toNat)
    case atStart => exact ⟨ways.length, rfl, Nat.le_refl _, Lib.hid (by omega), Lib.hid rfl, HB1⟩
    case round =>
      obtain ⟨k, rfl, hk, hkz, HM, HB⟩ := hrel
      by_cases h1 : 1 < k
      · have hki : (1 : Int) < (k : Int) := by omega
        obtain ⟨j, hj⟩ : ∃ j, k = j + 1 := ⟨k - 1, by omega⟩
        have HDL := Lib.hid (l12All_any _ _ halls ways (k : Int) wr (HV.out.ex HB.out) (HU.out.ex HB.out) HTR.out)
        have HDX := Lib.hid (fun r => @deadIx_none halls ways (k : Int) r)
        have HGD : Hid (∀ s ∈ (reachT halls ways (k : Int)).map Prod.fst, Good (lensW ways) s) := Lib.hid fun s hs => by
          obtain ⟨q, hq, rfl⟩ := List.mem_map.1 hs
          exact reach_good _ q hq
        have HNK : Hid ((firstDead halls ways (k : Int)).isSome = false → mf k = k) := Lib.hid (by rw [hj]; exact HNO.out j)
        have HYK : Hid ((firstDead halls ways (k : Int)).isSome = true → mf k = mf (k - 1)) := Lib.hid (by rw [hj]; exact HYE.out j)
        clear hj
        have HDC := Lib.hid (fun x sts W (hv : SlI W v halls) (hu : SlII W (.slice B ways.length d) ways) (hx : SlII W x sts) hg => l12Deadlock_any v (.slice B ways.length d) x halls ways sts (k : Int) W hv hu hx HTR.out hg)
        unfold AllP at HDL
        unfold DeadPost at HDC
        generalize reachT halls ways (k : Int) = acc at HDL HDX HGD
        generalize hfb : (firstDead halls ways (k : Int)).isSome = b at HNK HYK HDX
        clear hfb
        go_wp2_with fail
        refine HDL.out.mono ?_
        rintro e3 w3 ⟨A9, A10, A11, c9, c10, c11, us, bf, mv, rfl, hst, hrw, hbe, hmo, hln, hb3⟩
        have HB3 := Lib.hid (below_next0 HB.out hb3)
        have HSX : Hid (SlII w3 (.slice A9 acc.length c9) (acc.map Prod.fst)) := Lib.hid ⟨us, by rw [List.length_map]; exact hst.sl, fun i h1 h2 => (hrw i h1 h2).sl⟩
        clear hst hrw hbe hmo hln hb3
        go_wp2_with fail
        refine (HDC.out _ _ w3 (HV.out.ex HB3.out) (HU.out.ex HB3.out) HSX.out HGD.out).mono ?_
        rintro e4 w4 ⟨r, rfl, hix, hb4⟩
        obtain ⟨hneg, hpos⟩ := HDX.out r hix
        have HNEG := Lib.hid hneg; have HPOS := Lib.hid hpos
        have HB4 := Lib.hid (below_next0 HB3.out hb4)
        clear hneg hpos hix hb4 HDC HDL HDX
        cases b with
        | false =>
          have hr0 : r < 0 := HNEG.out.2 rfl
          go_wp2
          go_ret2
          rw [E.out, HM.out, HNK.out (by first | rfl | trivial)]
          exact ⟨rfl, HB4.out⟩
        | true =>
          obtain ⟨i0, hi0, rfl, -⟩ := HPOS.out rfl
          have hneg : ¬ ((i0 : Int) < 0) := by omega
          have HM4 : Hid (mf ways.length = mf (k - 1)) := Lib.hid (HM.out.trans (HYK.out (by first | rfl | trivial)))
          go_wp2
          go_roundw
          case rel => exact ⟨k - 1, (by congr 1; omega), by omega, Lib.hid (.inl (by omega)), HM4, HB4⟩
          case measure => simp [intOf]; omega
      · have hki : ¬ ((1 : Int) < (k : Int)) := by omega
        have HMV : Hid ((mf ways.length : Int) = min 1 (ways.length : Int)) := Lib.hid (by
          rcases hkz.out with h | h
          · obtain rfl : k = 1 := by omega
            rw [HM.out, HON.out]; omega
          · obtain rfl : k = 0 := by omega
            rw [HM.out, HZE.out, h]; rfl)
        go_wp2_with fail
        refine (l00Min_pol _ _ _).mono ?_
        rintro e3 w3 ⟨rfl, rfl⟩
        go_wp2
        go_ret2
        rw [E.out]
        rw [HMV.out]
        exact ⟨rfl, HB.out⟩
end Go.Proofs.Ytegabdhmfemgkaa
