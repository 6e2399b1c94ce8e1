/-
Sets of blowers as bits, their power, what an hour costs: by their contracts. Conditions: sets from 0 to 15, at most four blowers.
-/
import Derived.Test.YtegabdhmfemgkaaBlowA
namespace Go.Proofs.Ytegabdhmfemgkaa
open Go.RowKit
set_option linter.unusedVariables false

/-- whether a set has a number -/
def hasB (s k : Int) : Bool := s.toNat.testBit k.toNat
theorem hasB_bits : ∀ s : Nat, s < 16 → ∀ k : Nat, k < 4 → (bits .and .i64 ((s : Int) / 2 ^ k) 1 == 1) = Nat.testBit s k := by decide +kernel

theorem has_any (s k : Int) (w : World) (hs : 0 ≤ s ∧ s ≤ 15) (hk : 0 ≤ k ∧ k ≤ 3) : Calls Try.prog 58 #[.int .i64 s, .int .i64 k] w fun e w' => e = .returned (.bool (hasB s k)) ∧ w = w' := by
  have E : Hid ((bits .and .i64 (s / 2 ^ k.toNat) 1 == 1) = hasB s k) := Lib.hid <| by
    obtain ⟨a, rfl⟩ := Int.eq_ofNat_of_zero_le hs.1
    obtain ⟨b, rfl⟩ := Int.eq_ofNat_of_zero_le hk.1
    exact hasB_bits a (by omega) b (by omega)
  obtain ⟨hs1, hs2⟩ := hs
  obtain ⟨hk1, hk2⟩ := hk
  go_enter Try.func58, Try.ntmps58
  go_wp2
  go_ret
  exact ⟨ret_bool E.out, rfl⟩

theorem l11Has_any (s k : Int) (w : World) (hs : 0 ≤ s ∧ s ≤ 15) (hk : 0 ≤ k ∧ k ≤ 3) : Calls Try.prog 55 #[.int .i64 s, .int .i64 k] w fun e w' => e = .returned (.bool (hasB s k)) ∧ w = w' := by
  have E : Hid ((bits .and .i64 (s / 2 ^ k.toNat) 1 == 1) = hasB s k) := Lib.hid <| by
    obtain ⟨a, rfl⟩ := Int.eq_ofNat_of_zero_le hs.1
    obtain ⟨b, rfl⟩ := Int.eq_ofNat_of_zero_le hk.1
    exact hasB_bits a (by omega) b (by omega)
  obtain ⟨hs1, hs2⟩ := hs
  obtain ⟨hk1, hk2⟩ := hk
  go_enter Try.func55, Try.ntmps55
  go_wp2
  go_ret
  exact ⟨ret_bool E.out, rfl⟩

/-- the greatest set of n blowers -/
def lastB (n : Nat) : Int := (2 ^ n : Nat) - 1
theorem lastB_le {n : Nat} (h : n ≤ 4) : 0 ≤ lastB n ∧ lastB n ≤ 15 := by
  have : n = 0 ∨ n = 1 ∨ n = 2 ∨ n = 3 ∨ n = 4 := by omega
  rcases this with rfl | rfl | rfl | rfl | rfl <;> decide
theorem lastB_wrap {n : Nat} (h : n ≤ 4) : wrap64 (wrap64 (2 ^ n) - 1) = lastB n := by
  have : n = 0 ∨ n = 1 ∨ n = 2 ∨ n = 3 ∨ n = 4 := by omega
  rcases this with rfl | rfl | rfl | rfl | rfl <;> decide +kernel

theorem lastSet_any (A : Option Addr) (n c : Nat) (w : World) (hn : n ≤ 4) : Calls Try.prog 92 #[.slice A n c] w fun e w' => e = .returned (.int .i64 (lastB n)) ∧ w = w' := by
  have E := Lib.hid (lastB_wrap hn)
  go_enter Try.func92, Try.ntmps92
  go_wp2
  go_ret
  exact ⟨ret_int E.out, rfl⟩

theorem l11Set_any (A : Option Addr) (n c : Nat) (s : Int) (w : World) (hn : n ≤ 4) : Calls Try.prog 54 #[.slice A n c, .int .i64 s] w fun e w' => e = .returned (.bool (inB s 0 (lastB n))) ∧ w = w' := by
  have E := Lib.hid (lastB_wrap hn)
  go_enter Try.func54, Try.ntmps54
  go_wp2_with fail
  rw [E.out]
  refine (l00In_any _ _ _ _).mono ?_
  rintro e w' ⟨rfl, rfl⟩
  go_wp2
  go_ret
  exact ⟨rfl, rfl⟩

/-- the power of a set's first k blowers; what they cost in an hour behind another set -/
def powS (ts : List Blower) (s : Int) : Nat → Int
  | 0 => 0
  | k + 1 => powS ts s k + (if hasB s k then ((ts[k]?).map Blower.power).getD 0 else 0)
def stepS (ts : List Blower) (b s : Int) : Nat → Int
  | 0 => 0
  | k + 1 => stepS ts b s k + (if hasB s k then ((ts[k]?).map Blower.hour).getD 0 + (if hasB b k then 0 else ((ts[k]?).map Blower.start).getD 0) else 0)
theorem powS_yes {ts : List Blower} {s : Int} {k : Nat} (hk : k < ts.length) (h : hasB s k = true) : powS ts s (k + 1) = powS ts s k + ts[k].power := by simp [powS, h, hk]
theorem powS_no {ts : List Blower} {s : Int} {k : Nat} (h : hasB s k = false) : powS ts s (k + 1) = powS ts s k := by simp [powS, h]
theorem stepS_no {ts : List Blower} {b s : Int} {k : Nat} (h : hasB s k = false) : stepS ts b s (k + 1) = stepS ts b s k := by simp [stepS, h]
theorem stepS_on {ts : List Blower} {b s : Int} {k : Nat} (hk : k < ts.length) (h : hasB s k = true) (h' : hasB b k = true) : stepS ts b s (k + 1) = stepS ts b s k + ts[k].hour := by simp [stepS, h, h', hk]
theorem stepS_up {ts : List Blower} {b s : Int} {k : Nat} (hk : k < ts.length) (h : hasB s k = true) (h' : hasB b k = false) : stepS ts b s (k + 1) = stepS ts b s k + ts[k].hour + ts[k].start := by simp [stepS, h, h', hk, Int.add_assoc]
theorem blowersOk_at {ts : List Blower} (h : blowersOk ts = true) : ts.length ≤ 4 ∧ ∀ (k : Nat) (hk : k < ts.length), (1 ≤ ts[k].power ∧ ts[k].power ≤ 1000) ∧ (0 ≤ ts[k].hour ∧ ts[k].hour ≤ 10000) ∧ (0 ≤ ts[k].start ∧ ts[k].start ≤ 10000) := by
  simp only [blowersOk, Bool.and_eq_true, List.all_eq_true, decide_eq_true_eq] at h
  refine ⟨h.2, fun k hk => ?_⟩
  have := h.1 ts[k] (List.getElem_mem hk)
  simp only [Blower.ok, Bool.and_eq_true, inB_iff] at this
  exact ⟨this.1.1, this.1.2, this.2⟩
theorem powS_bd {ts : List Blower} (h : blowersOk ts = true) (s : Int) : ∀ k : Nat, k ≤ ts.length → 0 ≤ powS ts s k ∧ powS ts s k ≤ 1000 * (k : Int)
  | 0, _ => by simp [powS]
  | k + 1, hk => by
    have ih := powS_bd h s k (by omega)
    have hb := (blowersOk_at h).2 k (by omega)
    cases hh : hasB s k with
    | true => rw [powS_yes (by omega) hh]; omega
    | false => rw [powS_no hh]; omega
theorem stepS_bd {ts : List Blower} (h : blowersOk ts = true) (b s : Int) : ∀ k : Nat, k ≤ ts.length → 0 ≤ stepS ts b s k ∧ stepS ts b s k ≤ 20000 * (k : Int)
  | 0, _ => by simp [stepS]
  | k + 1, hk => by
    have ih := stepS_bd h b s k (by omega)
    have hb := (blowersOk_at h).2 k (by omega)
    cases hh : hasB s k with
    | true =>
      cases hb2 : hasB b k with
      | true => rw [stepS_on (by omega) hh hb2]; omega
      | false => rw [stepS_up (by omega) hh hb2]; omega
    | false => rw [stepS_no hh]; omega
def powT (ts : List Blower) (s : Int) : Int := powS ts s ts.length
def stepT (ts : List Blower) (b s : Int) : Int := stepS ts b s ts.length
theorem powT_bd {ts : List Blower} (h : blowersOk ts = true) (s : Int) : 0 ≤ powT ts s ∧ powT ts s ≤ 4000 := by
  have h1 := powS_bd h s ts.length (Nat.le_refl _); have h2 := (blowersOk_at h).1; unfold powT; omega
theorem stepT_bd {ts : List Blower} (h : blowersOk ts = true) (b s : Int) : 0 ≤ stepT ts b s ∧ stepT ts b s ≤ 80000 := by
  have h1 := stepS_bd h b s ts.length (Nat.le_refl _); have h2 := (blowersOk_at h).1; unfold stepT; omega

end Go.Proofs.Ytegabdhmfemgkaa
