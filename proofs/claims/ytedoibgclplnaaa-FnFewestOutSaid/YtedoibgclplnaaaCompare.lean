/-
cmp.Compare and slices.Compare at int64. Condition: the slices read as lists.
-/
import Derived.Test.YtedoibgclplnaaaFewest
namespace Go.Proofs.Ytedoibgclplnaaa
open Go.RowKit
set_option linter.unusedVariables false

def cmp1 (a b : Int) : Int := if a < b then -1 else if b < a then 1 else 0
theorem isNaN_any (x : Int) (w : World) : Calls Try.prog 93 #[.int .i64 x] w fun e w' => e = .returned (.bool false) ∧ w = w' := by
  have h : (x != x) = false := by simp
  go_enter Try.func93, Try.ntmps93
  go_wp2
  go_ret
  exact ⟨rfl, rfl⟩
theorem cmpI_any (a b : Int) (w : World) : Calls Try.prog 80 #[.int .i64 a, .int .i64 b] w fun e w' => e = .returned (.int .i64 (cmp1 a b)) ∧ w = w' := by
  by_cases h1 : a < b
  · have E : Hid (cmp1 a b = -1) := Lib.hid (if_pos h1)
    go_enter Try.func80, Try.ntmps80
    go_wp2_with (go_at_call 93; refine (isNaN_any _ _).mono ?_; rintro e w' ⟨rfl, rfl⟩)
    go_ret
    exact ⟨ret_int E.out.symm, rfl⟩
  · by_cases h2 : b < a
    · have E : Hid (cmp1 a b = 1) := Lib.hid (by unfold cmp1; rw [if_neg h1, if_pos h2])
      go_enter Try.func80, Try.ntmps80
      go_wp2_with (go_at_call 93; refine (isNaN_any _ _).mono ?_; rintro e w' ⟨rfl, rfl⟩)
      go_ret
      exact ⟨ret_int E.out.symm, rfl⟩
    · have E : Hid (cmp1 a b = 0) := Lib.hid (by unfold cmp1; rw [if_neg h1, if_neg h2])
      go_enter Try.func80, Try.ntmps80
      go_wp2_with (go_at_call 93; refine (isNaN_any _ _).mono ?_; rintro e w' ⟨rfl, rfl⟩)
      go_ret
      exact ⟨ret_int E.out.symm, rfl⟩

set_option maxHeartbeats 1000000 in
theorem compareI_any (v u : Value) (xs ys : List Int) (w : World) (hv : SlI w v xs) (hu : SlI w u ys) :
    Calls Try.prog 49 #[v, u] w fun e w' => e = .returned (.int .i64 (cmpL xs ys)) ∧ w = w' := by
  obtain ⟨A, c, rfl, hla, ha⟩ := hv.op
  obtain ⟨B, d, rfl, hlb, hb⟩ := hu.op
  have HA := Lib.hid ha; have HB := Lib.hid hb
  clear hv hu ha hb
  go_enter Try.func49, Try.ntmps49
  go_wp2
  go_loop [5, 6, 7, 8, 11] (fun _ _ _ _ i => ∃ k : Nat, k ≤ xs.length ∧ k ≤ ys.length ∧ i = .int .i64 k ∧ Hid (cmpL xs ys = cmpL (xs.drop k) (ys.drop k))) (fun _ _ _ _ i => xs.length - (intOf i).toNat)
  case atStart => exact ⟨0, Nat.zero_le _, Nat.zero_le _, rfl, Lib.hid rfl⟩
  case round =>
    obtain ⟨k, hk, hk2, rfl, hC⟩ := hrel
    by_cases hlt : k < xs.length
    · have hki : (k : Int) < (xs.length : Int) := by omega
      obtain ⟨b1, o1, rfl, hbs1, hc1⟩ := HA.out k hlt
      have hx := hc1 k hlt
      have HD1 : Hid (xs.drop k = xs[k] :: xs.drop (k + 1)) := Lib.hid (List.drop_eq_getElem_cons hlt)
      generalize xs[k] = x at hx HD1
      by_cases hlt2 : k < ys.length
      · have hki2 : (k : Int) < (ys.length : Int) := by omega
        have hki3 : ¬ (ys.length : Int) ≤ (k : Int) := by omega
        obtain ⟨b2, o2, rfl, hbs2, hc2⟩ := HB.out k hlt2
        have hy := hc2 k hlt2
        have HD2 : Hid (ys.drop k = ys[k] :: ys.drop (k + 1)) := Lib.hid (List.drop_eq_getElem_cons hlt2)
        generalize ys[k] = y at hy HD2
        have HCM := Lib.hid (fun w => cmpI_any x y w)
        have HST : Hid (cmpL xs ys = if x < y then -1 else if y < x then 1 else cmpL (xs.drop (k + 1)) (ys.drop (k + 1))) := Lib.hid (by rw [hC.out, HD1.out, HD2.out]; rfl)
        clear hc1 hc2
        by_cases hz : cmp1 x y = 0
        · have HE : Hid (cmpL xs ys = cmpL (xs.drop (k + 1)) (ys.drop (k + 1))) := Lib.hid (by
            rw [HST.out]; unfold cmp1 at hz
            split at hz
            · cases hz
            · split at hz
              · cases hz
              · rw [if_neg (by assumption), if_neg (by assumption)])
          have hzb : (cmp1 x y != 0) = false := by simpa using hz
          clear hz
          go_wp2_with (go_at_call 80; refine (HCM.out _).mono ?_; rintro e w' ⟨rfl, rfl⟩)
          go_round
          case rel => exact ⟨k + 1, by omega, by omega, by go_num, HE⟩
          case measure => simp [intOf]; omega
        · have HE : Hid (cmpL xs ys = cmp1 x y) := Lib.hid (by
            rw [HST.out]; unfold cmp1 at hz ⊢
            split
            · rfl
            · rename_i h1
              rw [if_neg h1] at hz
              split
              · rfl
              · rename_i h2; rw [if_neg h2] at hz; exact absurd rfl hz)
          have hzb : (cmp1 x y != 0) = true := by simpa using hz
          clear hz
          go_wp2_with (go_at_call 80; refine (HCM.out _).mono ?_; rintro e w' ⟨rfl, rfl⟩)
          go_ret
          exact ⟨ret_int HE.out.symm, rfl⟩
      · have hki3 : (ys.length : Int) ≤ (k : Int) := by omega
        have HE : Hid (cmpL xs ys = 1) := Lib.hid (by rw [hC.out, HD1.out, List.drop_of_length_le (l := ys) (by omega)]; rfl)
        clear hc1
        go_wp2
        go_ret
        exact ⟨ret_int HE.out.symm, rfl⟩
    · have hkn : k = xs.length := by omega
      by_cases hll : xs.length < ys.length
      · have hli : (xs.length : Int) < (ys.length : Int) := by omega
        have HE : Hid (cmpL xs ys = -1) := Lib.hid (by
          rw [hC.out, List.drop_of_length_le (l := xs) (by omega), List.drop_eq_getElem_cons (show k < ys.length by omega)]; rfl)
        go_wp2
        go_ret
        exact ⟨ret_int HE.out.symm, rfl⟩
      · have hli : ¬ (xs.length : Int) < (ys.length : Int) := by omega
        have HE : Hid (cmpL xs ys = 0) := Lib.hid (by rw [hC.out, List.drop_of_length_le (l := xs) (by omega), List.drop_of_length_le (l := ys) (by omega)]; rfl)
        go_wp2
        go_ret
        exact ⟨ret_int HE.out.symm, rfl⟩
end Go.Proofs.Ytedoibgclplnaaa
