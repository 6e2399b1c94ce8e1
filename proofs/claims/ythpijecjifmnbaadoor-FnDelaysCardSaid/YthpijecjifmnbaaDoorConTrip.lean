/-
slices.IndexFunc and slices.ContainsFunc over Trips, for whatever predicate. Condition: the function value answers each element and only makes new memory.
-/
import Derived.Test.YthpijecjifmnbaaDoorContains
import Derived.Test.YthpijecjifmnbaaDoorStrTrip
namespace Go.Proofs.YthpijecjifmnbaaDoor
open Go.RowKit
set_option linter.unusedVariables false

set_option maxHeartbeats 1000000 in
theorem idxTrip_any (g : Nat) (lb : Array Value) (eg : ∀ args w, (callFunc g args).run Tryd.prog w = .ok (.enter g args) w) (p : Nat → Bool) (v : Value) (ts : List Trip) (w : World) (hv : SlTrip w v ts)
    (hp : ∀ k (hk : k < ts.length) W, Below w.heap.size w W → Calls Tryd.prog g (#[.agg #[.int .i64 ts[k].to, .int .i64 ts[k].due, .int .i64 ts[k].came]] ++ lb) W fun e w' => e = .returned (.bool (p k)) ∧ Below W.heap.size W w') :
    Calls Tryd.prog 69 #[v, .func (.func g) #[] lb] w fun e w' => e = .returned (.int .i64 (firstN p ts.length)) ∧ Below w.heap.size w w' := by
  obtain ⟨A, c, rfl, hbig, ha⟩ := hv.op
  clear hv
  go_enter Tryd.func69, Tryd.ntmps69
  go_wp2
  go_loopg [5, 8] ts.length (fun gg _ s8 wr => ∃ kk : Nat, kk ≤ ts.length ∧ ts.length - kk ≤ gg ∧ s8 = .int .i64 kk ∧ Below w.heap.size w wr ∧ Hid (∀ j, j < kk → p j = false))
  case atStart => exact ⟨0, Nat.zero_le _, by omega, rfl, Below.refl _ _, fun j hj => absurd hj (Nat.not_lt_zero _)⟩
  case round =>
    obtain ⟨kk, hkk, hg, rfl, hb, A⟩ := hrel
    by_cases hlt : kk < ts.length
    · have hltz : (kk : Int) < (ts.length : Int) := by omega
      obtain ⟨b, o, rfl, hbs, hc0, hc1, hc2⟩ := ha kk hlt
      have hx0 := (hb.cell (p := ⟨b, o + kk * 3, none⟩) hbs).trans hc0
      have hx1 := (hb.cell (p := ⟨b, o + kk * 3 + 1, none⟩) hbs).trans hc1
      have hx2 := (hb.cell (p := ⟨b, o + kk * 3 + 2, none⟩) hbs).trans hc2
      have hcall := fun W hW => hp kk hlt W hW
      generalize ts[kk] = y at hx0 hx1 hx2 hcall
      clear hc0 hc1 hc2 hp ha
      cases hq : p kk with
      | true =>
        rw [hq] at hcall
        go_wp2_with (go_at_fn g; refine (hcall _ hb).mono ?_; rintro e w1 ⟨rfl, hb1⟩)
        go_ret
        exact ⟨ret_int (firstN_hit hlt hq A.out).symm, below_next hb hb.size hb1⟩
      | false =>
        rw [hq] at hcall
        go_wp2_with (go_at_fn g; refine (hcall _ hb).mono ?_; rintro e w1 ⟨rfl, hb1⟩)
        go_roundg (ts.length - (kk + 1))
        case measure => omega
        case rel =>
          refine ⟨kk + 1, by omega, by omega, by go_num, below_next hb hb.size hb1, (show Hid _ from fun j hj => ?_)⟩
          by_cases e : j = kk
          · subst e; exact hq
          · exact A.out j (by omega)
    · have hltz : ¬ (kk : Int) < (ts.length : Int) := by omega
      have : kk = ts.length := by omega
      subst this
      go_wp2
      go_ret
      exact ⟨ret_int (firstN_miss A.out).symm, hb⟩

theorem conTrip_any (g : Nat) (lb : Array Value) (eg : ∀ args w, (callFunc g args).run Tryd.prog w = .ok (.enter g args) w) (p : Nat → Bool) (v : Value) (ts : List Trip) (w : World) (hv : SlTrip w v ts)
    (hp : ∀ k (hk : k < ts.length) W, Below w.heap.size w W → Calls Tryd.prog g (#[.agg #[.int .i64 ts[k].to, .int .i64 ts[k].due, .int .i64 ts[k].came]] ++ lb) W fun e w' => e = .returned (.bool (p k)) ∧ Below W.heap.size W w') :
    Calls Tryd.prog 58 #[v, .func (.func g) #[] lb] w fun e w' => e = .returned (.bool (anyN p ts.length)) ∧ Below w.heap.size w w' := by
  have H := Lib.hid hp; clear hp
  have he := firstN_nonneg p ts.length
  go_enter Tryd.func58, Tryd.ntmps58
  go_wp2_with (go_at_call 69; refine (idxTrip_any g lb eg p v ts _ hv H.out).mono ?_; rintro e w1 ⟨rfl, hb1⟩)
  go_ret
  exact ⟨rfl, hb1⟩
end Go.Proofs.YthpijecjifmnbaaDoor
