/-
f6big and f6ints (blowers). No condition.
-/
import Derived.Test.YtjleabgoajoegaaDrB3
import Derived.Test.YtjleabgoajoegaaSetA
import Derived.Test.YtjleabgoajoegaaBestB
import Derived.Test.YtjleabgoajoegaaBestD
import Derived.Test.YtjleabgoajoegaaBlPl
namespace Go.Proofs.Ytjleabgoajoegaa
open Go.ChangeShapes Go.WideShapes Go.ChangeAt Go.RowKit Go.Deep Go.Joins
set_option linter.unusedVariables false

theorem f6big_any (v : Value) (bs : List Int) (w : World) (hv : SlB w v bs) : Calls Try.prog 43 #[v] w fun e w' => e = .returned (.bool (decide (4096 < bs.length))) ∧ w = w' := by
  obtain ⟨A, c, rfl, hl⟩ := hv.op
  clear hv
  go_enter Try.func43, Try.ntmps43
  go_wp2
  go_ret
  exact ⟨ret_bool (by rw [Bool.eq_iff_iff]; simp; omega), rfl⟩

theorem f6ints_any (v u : Value) (xs : List Int) (w : World) (hv : SlI w v xs) (hu : SlI w u xs) :
    Calls Try.prog 50 #[v, u] w fun e w' => e = .returned (.bool true) ∧ Below w.heap.size w w' := by
  obtain ⟨A, c, rfl, hla, ha⟩ := hv.op
  obtain ⟨B, d, rfl, hlb, hb⟩ := hu.op
  have HA := Lib.hid ha; have HBB := Lib.hid hb
  clear hv ha hu hb
  go_enter Try.func50, Try.ntmps50
  go_wp2
  go_loopw [5] (fun i wr => ∃ k : Nat, k ≤ xs.length ∧ i = .int .i64 k ∧ Below w.heap.size w wr) (fun i _ => xs.length - (intOf i).toNat)
  case atStart => exact ⟨0, Nat.zero_le _, rfl, Below.refl _ _⟩
  case round =>
    obtain ⟨k, hk, rfl, hb⟩ := hrel
    by_cases hlt : k < xs.length
    · obtain ⟨b1, o1, rfl, hbs, hcc⟩ := HA.out k hlt
      obtain ⟨b2, o2, rfl, hbs2, hcc2⟩ := HBB.out k hlt
      have hx := (hb.cell (p := ⟨b1, o1 + k, none⟩) hbs).trans (hcc k hlt)
      have hy := (hb.cell (p := ⟨b2, o2 + k, none⟩) hbs2).trans (hcc2 k hlt)
      have hlti : (k : Int) < (xs.length : Int) := by omega
      have HB := Lib.hid hb
      generalize xs[k] = x at hx hy
      clear hcc hcc2 hb
      go_wp2
      go_region
      go_wp2
      go_roundw
      case rel => exact ⟨k + 1, by omega, by go_num, below_drewN HB.out _⟩
      case measure => simp [intOf]; omega
    · have hkn : k = xs.length := by omega
      subst hkn
      go_wp2
      go_ret
      exact ⟨rfl, hb⟩

theorem one_tells2 {ts : List Blower} {ss : List Int} (h : (costR ts ss).2 = 0) : ts.length ≤ 4 ∧ (costR ts ss).1 = sumN (tT ts ss ss.length) ts.length ∧ ∀ (i : Nat) (hi : i < ts.length), ∃ hh st : Int, hoursR ts ss (i : Int) = (hh, 0) ∧ startsR ts ss (i : Int) = (st, 0) ∧ (0 ≤ hh ∧ hh ≤ 24) ∧ (0 ≤ st ∧ st ≤ 24) ∧ (0 ≤ ts[i].hour ∧ ts[i].hour ≤ 10000) ∧ (0 ≤ ts[i].start ∧ ts[i].start ≤ 10000) ∧ (0 ≤ sumN (tT ts ss ss.length) i ∧ sumN (tT ts ss ss.length) i ≤ 480000 * (i : Int)) ∧ sumN (tT ts ss ss.length) (i + 1) = sumN (tT ts ss ss.length) i + hh * ts[i].hour + st * ts[i].start := by
  obtain ⟨hb, hs, ho⟩ := one_tells h
  obtain ⟨h4, hbd⟩ := blowersOk_at hb
  have hstep : ∀ (i : Nat) (hi : i < ts.length), 0 ≤ tT ts ss ss.length i ∧ tT ts ss ss.length i ≤ 480000 := fun i hi => by
    obtain ⟨_, _, ⟨a1, a2⟩, a3⟩ := ho i hi
    obtain ⟨_, ⟨b1, b2⟩, ⟨c1, c2⟩⟩ := hbd i hi
    rw [tT_at hi]
    generalize hoursL (runsU (onB ss (i : Int)) ss.length) = x at *
    generalize (runsU (onB ss (i : Int)) ss.length).length = y at *
    have h1 : 0 ≤ x * ts[i].hour := Int.mul_nonneg a1 b1
    have h2 : x * ts[i].hour ≤ 24 * 10000 := Int.mul_le_mul a2 b2 b1 (by omega)
    have h3 : 0 ≤ (y : Int) * ts[i].start := Int.mul_nonneg (by omega) c1
    have h4 : (y : Int) * ts[i].start ≤ 24 * 10000 := Int.mul_le_mul (by omega) c2 c1 (by omega)
    omega
  have hsum : ∀ i : Nat, i ≤ ts.length → 0 ≤ sumN (tT ts ss ss.length) i ∧ sumN (tT ts ss ss.length) i ≤ 480000 * (i : Int) := fun i => by
    induction i with
    | zero => intro _; simp [sumN]
    | succ i ih => intro hi; have h1 := ih (by omega); have h2 := hstep i (by omega); show 0 ≤ sumN (tT ts ss ss.length) i + tT ts ss ss.length i ∧ sumN (tT ts ss ss.length) i + tT ts ss ss.length i ≤ 480000 * ((i + 1 : Nat) : Int); omega
  refine ⟨h4, hs, fun i hi => ?_⟩
  obtain ⟨a1, a2, a3, a4⟩ := ho i hi
  refine ⟨_, _, a1, a2, a3, ⟨by omega, by omega⟩, (hbd i hi).2.1, (hbd i hi).2.2, hsum i (by omega), ?_⟩
  show sumN (tT ts ss ss.length) i + tT ts ss ss.length i = _
  rw [tT_at hi]; omega
theorem best_bd {ts : List Blower} {ns : List Int} (h : (bdR ts ns).2.2 = 0) : ns.length ≤ 24 ∧ ∀ (k : Nat) (hk : k < ns.length), -9223372036854775808 ≤ ns[k] ∧ ns[k] ≤ 9223372036854775807 := by
  have hok : (blowersOk ts && needsOk ns) = true := by
    cases e : (blowersOk ts && needsOk ns) with
    | true => rfl
    | false => unfold bdR at h; rw [e] at h; simp at h
  have hn : needsOk ns = true := by simp only [Bool.and_eq_true] at hok; exact hok.2
  obtain ⟨h1, h2⟩ := needsOk_at hn
  exact ⟨h1, fun k hk => by have := h2 k hk; omega⟩
end Go.Proofs.Ytjleabgoajoegaa
