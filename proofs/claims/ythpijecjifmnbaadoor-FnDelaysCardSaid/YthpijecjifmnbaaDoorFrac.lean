/-
Fractions in lowest terms: gcd, lowest, l02Make, eqFraction, by their contracts. Conditions: from 0 on, the lower number above 0.
-/
import Derived.Test.YthpijecjifmnbaaDoorInts
namespace Go.Proofs.YthpijecjifmnbaaDoor
open Go.RowKit
set_option linter.unusedVariables false

theorem gcd_any (a b : Nat) (w : World) (ha : a ≤ 4611686018427387904) (hb : b ≤ 4611686018427387904) : Calls Tryd.prog 65 #[.int .i64 a, .int .i64 b] w fun e w' => e = .returned (.int .i64 (Nat.gcd a b : Nat)) ∧ ∃ n, w' = w.drewN n := by
  go_enter Tryd.func65, Tryd.ntmps65
  go_wp2
  go_loopw [0, 1] (fun x y wr => ∃ c d : Nat, c ≤ 4611686018427387904 ∧ d ≤ 4611686018427387904 ∧ x = .int .i64 c ∧ y = .int .i64 d ∧ Hid (Nat.gcd c d = Nat.gcd a b) ∧ ∃ n, wr = w.drewN n) (fun _ y _ => (intOf y).toNat)
  case atStart => exact ⟨a, b, ha, hb, rfl, rfl, Lib.hid rfl, 0, rfl⟩
  case round =>
    clear ha hb
    obtain ⟨c, d, hc, hd, rfl, rfl, hg, n, rfl⟩ := hrel
    by_cases h0 : d = 0
    · subst h0
      have E : Hid (((Nat.gcd a b : Nat) : Int) = (c : Int)) := Lib.hid (by rw [← hg.out]; simp)
      go_wp2
      go_ret
      exact ⟨ret_int E.out.symm, n, rfl⟩
    · have hdz : ((d : Int) != 0) = true := by simpa using h0
      have hd0 : (d : Int) ≠ 0 := by omega
      have hd1 : (1 : Int) ≤ d := by omega
      have hm := Nat.mod_lt c (show 0 < d by omega)
      have E : Hid (Nat.gcd d (c % d) = Nat.gcd a b) := Lib.hid (by rw [← hg.out]; rw [Nat.gcd_comm c d, Nat.gcd_rec d c, Nat.gcd_comm])
      have hmi : (c : Int) % (d : Int) = ((c % d : Nat) : Int) := by simp
      go_wp2
      go_region
      go_wp2
      go_roundw
      case rel => exact ⟨d, c % d, hd, by omega, rfl, by rw [← hmi], E, n + 1, rfl⟩
      case measure => simp [intOf]; omega
theorem l00Gcd_any (a b : Nat) (w : World) (ha : a ≤ 4611686018427387904) (hb : b ≤ 4611686018427387904) : Calls Tryd.prog 66 #[.int .i64 a, .int .i64 b] w fun e w' => e = .returned (.int .i64 (Nat.gcd a b : Nat)) ∧ w = w' := by
  go_enter Tryd.func66, Tryd.ntmps66
  go_wp2
  go_loopw [0, 1] (fun x y wr => ∃ c d : Nat, c ≤ 4611686018427387904 ∧ d ≤ 4611686018427387904 ∧ x = .int .i64 c ∧ y = .int .i64 d ∧ Hid (Nat.gcd c d = Nat.gcd a b) ∧ w = wr) (fun _ y _ => (intOf y).toNat)
  case atStart => exact ⟨a, b, ha, hb, rfl, rfl, Lib.hid rfl, rfl⟩
  case round =>
    clear ha hb
    obtain ⟨c, d, hc, hd, rfl, rfl, hg, rfl⟩ := hrel
    by_cases h0 : d = 0
    · subst h0
      have E : Hid (((Nat.gcd a b : Nat) : Int) = (c : Int)) := Lib.hid (by rw [← hg.out]; simp)
      go_wp2
      go_ret
      exact ⟨ret_int E.out.symm, rfl⟩
    · have hdz : ((d : Int) != 0) = true := by simpa using h0
      have hd0 : (d : Int) ≠ 0 := by omega
      have hd1 : (1 : Int) ≤ d := by omega
      have hm := Nat.mod_lt c (show 0 < d by omega)
      have E : Hid (Nat.gcd d (c % d) = Nat.gcd a b) := Lib.hid (by rw [← hg.out]; rw [Nat.gcd_comm c d, Nat.gcd_rec d c, Nat.gcd_comm])
      have hmi : (c : Int) % (d : Int) = ((c % d : Nat) : Int) := by simp
      go_wp2
      go_roundw
      case rel => exact ⟨d, c % d, hd, by omega, rfl, by rw [← hmi], E, by first | trivial | rfl⟩
      case measure => simp [intOf]; omega

theorem l00Size_any (a : Nat) (w : World) (ha : a ≤ 4611686018427387904) : Calls Tryd.prog 67 #[.int .i64 a] w fun e w' => e = .returned (.int .i64 a) ∧ w = w' := by
  go_enter Tryd.func67, Tryd.ntmps67
  go_wp2
  go_ret
  exact ⟨rfl, rfl⟩

/-- a fraction in lowest terms -/
def fracR (a b : Nat) : Int × Int := ((a : Int) / (Nat.gcd a b : Nat), (b : Int) / (Nat.gcd a b : Nat))
theorem gcd_bd {a b : Nat} (hb : 1 ≤ b) (h : b ≤ 4611686018427387904) : 1 ≤ ((Nat.gcd a b : Nat) : Int) ∧ ((Nat.gcd a b : Nat) : Int) ≤ 4611686018427387904 := by
  have h1 := Nat.gcd_pos_of_pos_right a (show 0 < b by omega)
  have h2 := Nat.gcd_le_right a (show 0 < b by omega)
  omega

theorem wrap64_fit {n : Int} (h : -9223372036854775808 ≤ n ∧ n ≤ 9223372036854775807) : wrap64 n = n := by unfold wrap64; omega
theorem quo_bd {a : Nat} {g : Int} (h : a ≤ 4611686018427387904) (hg : 1 ≤ g) : -9223372036854775808 ≤ (a : Int) / g ∧ (a : Int) / g ≤ 9223372036854775807 := by
  have h1 : 0 ≤ (a : Int) / g := Int.ediv_nonneg (by omega) (by omega)
  have h2 : (a : Int) / g ≤ a := Int.ediv_le_self _ (by omega)
  omega

theorem lowest_any (a b : Nat) (w : World) (ha : a ≤ 4611686018427387904) (hb : b ≤ 4611686018427387904) (hb1 : 1 ≤ b) :
    Calls Tryd.prog 46 #[.int .i64 a, .int .i64 b] w fun e w' => e = .returned (.agg #[.int .i64 (fracR a b).1, .int .i64 (fracR a b).2]) ∧ Below w.heap.size w w' := by
  obtain ⟨hg1, hg2⟩ := gcd_bd (a := a) hb1 hb
  have HR : Hid (fracR a b = ((a : Int) / (Nat.gcd a b : Nat), (b : Int) / (Nat.gcd a b : Nat))) := Lib.hid rfl
  have hbi : (1 : Int) ≤ b := by omega
  have hgz : ((Nat.gcd a b : Nat) : Int) ≠ 0 := by omega
  go_enter Tryd.func46, Tryd.ntmps46
  go_wp2_with fail
  refine (gcd_any a b _ ha hb).mono ?_
  rintro e w1 ⟨rfl, n, rfl⟩
  have HW1 : Hid (wrap64 ((a : Int) / (Nat.gcd a b : Nat)) = (a : Int) / (Nat.gcd a b : Nat)) := Lib.hid (wrap64_fit (quo_bd ha hg1))
  have HW2 : Hid (wrap64 ((b : Int) / (Nat.gcd a b : Nat)) = (b : Int) / (Nat.gcd a b : Nat)) := Lib.hid (wrap64_fit (quo_bd hb hg1))
  generalize ((Nat.gcd a b : Nat) : Int) = g at hg1 hg2 hgz HR HW1 HW2 ⊢
  go_wp2
  go_region
  go_wp2
  rw [HW1.out, HW2.out]
  refine bodyPost_ret (v := .agg #[.int .i64 ((a : Int) / g), .int .i64 ((b : Int) / g)]) (by simp [results, Tryd.results46, go_sem]) rfl ⟨by rw [HR.out], ?_⟩
  exact ((below_drewN (below_alloc _ _) (n + 1)).setCell (p := ⟨w.heap.size, 0, none⟩) (Nat.le_refl _) _).setCell (p := ⟨w.heap.size, 1, none⟩) (Nat.le_refl _) _

theorem l02Make_any (a b : Nat) (w : World) (ha : a ≤ 4611686018427387904) (hb : b ≤ 4611686018427387904) (hb1 : 1 ≤ b) :
    Calls Tryd.prog 48 #[.int .i64 a, .int .i64 b] w fun e w' => e = .returned (.agg #[.int .i64 (fracR a b).1, .int .i64 (fracR a b).2]) ∧ Below w.heap.size w w' := by
  obtain ⟨hg1, hg2⟩ := gcd_bd (a := a) hb1 hb
  have HR : Hid (fracR a b = ((a : Int) / (Nat.gcd a b : Nat), (b : Int) / (Nat.gcd a b : Nat))) := Lib.hid rfl
  have hbi : (1 : Int) ≤ b := by omega
  have hgz : ((Nat.gcd a b : Nat) : Int) ≠ 0 := by omega
  have HW1 : Hid (wrap64 ((a : Int) / (Nat.gcd a b : Nat)) = (a : Int) / (Nat.gcd a b : Nat)) := Lib.hid (wrap64_fit (quo_bd ha hg1))
  have HW2 : Hid (wrap64 ((b : Int) / (Nat.gcd a b : Nat)) = (b : Int) / (Nat.gcd a b : Nat)) := Lib.hid (wrap64_fit (quo_bd hb hg1))
  go_enter Tryd.func48, Tryd.ntmps48
  go_wp2_with fail
  refine (l00Size_any a _ ha).mono ?_
  rintro e w1 ⟨rfl, rfl⟩
  go_wp2_with fail
  refine (l00Gcd_any a b _ ha hb).mono ?_
  rintro e w1 ⟨rfl, rfl⟩
  generalize ((Nat.gcd a b : Nat) : Int) = g at hg1 hg2 hgz HR HW1 HW2 ⊢
  go_wp2
  go_region
  go_wp2
  rw [HW1.out, HW2.out]
  refine bodyPost_ret (v := .agg #[.int .i64 ((a : Int) / g), .int .i64 ((b : Int) / g)]) (by simp [results, Tryd.results48, go_sem]) rfl ⟨by rw [HR.out], ?_⟩
  exact (below_alloc _ _).drew

end Go.Proofs.YthpijecjifmnbaaDoor
