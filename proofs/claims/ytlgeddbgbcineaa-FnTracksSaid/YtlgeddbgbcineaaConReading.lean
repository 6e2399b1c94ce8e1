/-
slices.IndexFunc and slices.ContainsFunc over Readings, for whatever predicate. Condition: the function value answers each element and only makes new memory.
-/
import Derived.Test.YtlgeddbgbcineaaContains
import Derived.Test.YtlgeddbgbcineaaStrReading
namespace Go.Proofs.Ytlgeddbgbcineaa
open Go.RowKit
set_option linter.unusedVariables false

set_option maxHeartbeats 1000000 in
theorem idxReading_any (g : Nat) (lb : Array Value) (eg : ∀ args w, (callFunc g args).run Try.prog w = .ok (.enter g args) w) (p : Nat → Bool) (v : Value) (ts : List Reading) (w : World) (hv : SlReading w v ts)
    (hp : ∀ k (hk : k < ts.length) W, Below w.heap.size w W → Calls Try.prog g (#[.agg #[.int .i64 ts[k].sensor, .int .i64 ts[k].tick]] ++ lb) W fun e w' => e = .returned (.bool (p k)) ∧ Below W.heap.size W w') :
    Calls Try.prog 81 #[v, .func (.func g) #[] lb] w fun e w' => e = .returned (.int .i64 (firstN p ts.length)) ∧ Below w.heap.size w w' := by
  obtain ⟨A, c, rfl, hbig, ha⟩ := hv.op
  clear hv
  go_enter Try.func81, Try.ntmps81
  go_wp2
  go_loopg [5, 8] ts.length (fun gg _ s8 wr => ∃ kk : Nat, kk ≤ ts.length ∧ ts.length - kk ≤ gg ∧ s8 = .int .i64 kk ∧ Below w.heap.size w wr ∧ Hid (∀ j, j < kk → p j = false))
  case atStart => exact ⟨0, Nat.zero_le _, by omega, rfl, Below.refl _ _, fun j hj => absurd hj (Nat.not_lt_zero _)⟩
  case round =>
    obtain ⟨kk, hkk, hg, rfl, hb, A⟩ := hrel
    by_cases hlt : kk < ts.length
    · have hltz : (kk : Int) < (ts.length : Int) := by omega
      obtain ⟨b, o, rfl, hbs, hc0, hc1⟩ := ha kk hlt
      have hx0 := (hb.cell (p := ⟨b, o + kk * 2, none⟩) hbs).trans hc0
      have hx1 := (hb.cell (p := ⟨b, o + kk * 2 + 1, none⟩) hbs).trans hc1
      have hcall := fun W hW => hp kk hlt W hW
      generalize ts[kk] = y at hx0 hx1 hcall
      clear hc0 hc1 hp ha
      cases hq : p kk with
      | true =>
        rw [hq] at hcall
        go_wp2_with (go_at_fn g; refine (hcall _ hb).mono ?_; rintro e w1 ⟨rfl, hb1⟩)
        go_ret
        exact ⟨ret_int (firstN_hit hlt hq A.out).symm, below_next hb hb.size hb1⟩
      | false =>
        rw [hq] at hcall
        go_wp2_with (go_at_fn g; refine (hcall _ hb).mono ?_; rintro e w1 ⟨rfl, hb1⟩)
        go_roundg (ts.length - (kk + 1))
        case measure => omega
        case rel =>
          refine ⟨kk + 1, by omega, by omega, by go_num, below_next hb hb.size hb1, (show Hid _ from fun j hj => ?_)⟩
          by_cases e : j = kk
          · subst e; exact hq
          · exact A.out j (by omega)
    · have hltz : ¬ (kk : Int) < (ts.length : Int) := by omega
      have : kk = ts.length := by omega
      subst this
      go_wp2
      go_ret
      exact ⟨ret_int (firstN_miss A.out).symm, hb⟩

theorem conReading_any (g : Nat) (lb : Array Value) (eg : ∀ args w, (callFunc g args).run Try.prog w = .ok (.enter g args) w) (p : Nat → Bool) (v : Value) (ts : List Reading) (w : World) (hv : SlReading w v ts)
    (hp : ∀ k (hk : k < ts.length) W, Below w.heap.size w W → Calls Try.prog g (#[.agg #[.int .i64 ts[k].sensor, .int .i64 ts[k].tick]] ++ lb) W fun e w' => e = .returned (.bool (p k)) ∧ Below W.heap.size W w') :
    Calls Try.prog 61 #[v, .func (.func g) #[] lb] w fun e w' => e = .returned (.bool (anyN p ts.length)) ∧ Below w.heap.size w w' := by
  have H := Lib.hid hp; clear hp
  have he := firstN_nonneg p ts.length
  go_enter Try.func61, Try.ntmps61
  go_wp2_with (go_at_call 81; refine (idxReading_any g lb eg p v ts _ hv H.out).mono ?_; rintro e w1 ⟨rfl, hb1⟩)
  go_ret
  exact ⟨rfl, hb1⟩
end Go.Proofs.Ytlgeddbgbcineaa
