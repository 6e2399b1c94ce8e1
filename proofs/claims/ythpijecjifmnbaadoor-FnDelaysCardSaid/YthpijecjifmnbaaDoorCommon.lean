/-
within, l00In and outside, each by its contract: whether a number lies in a range, whether a list has one that does not. Condition: the list's slice reads as a list of int64.
-/
import Derived.Test.YthpijecjifmnbaaDoorContains
import Derived.WalkSpells
namespace Go.Proofs.YthpijecjifmnbaaDoor
open Go.RowKit
set_option linter.unusedVariables false

def inB (n a b : Int) : Bool := decide (a ≤ n) && decide (n ≤ b)
theorem inB_iff {n a b : Int} : inB n a b = true ↔ a ≤ n ∧ n ≤ b := by unfold inB; simp
theorem inB_false {n a b : Int} : inB n a b = false ↔ ¬ (a ≤ n ∧ n ≤ b) := by rw [← inB_iff]; simp

theorem within_any (n a b : Int) (w : World) : Calls Tryd.prog 52 #[.int .i64 n, .int .i64 a, .int .i64 b] w fun e w' => e = .returned (.bool (inB n a b)) ∧ w = w' := by
  by_cases h : a ≤ n
  all_goals
    go_enter Tryd.func52, Tryd.ntmps52
    go_wp2
    go_ret
    exact ⟨ret_bool (by simp [inB, h]; try omega), rfl⟩

theorem l00In_any (n a b : Int) (w : World) : Calls Tryd.prog 44 #[.int .i64 n, .int .i64 a, .int .i64 b] w fun e w' => e = .returned (.bool (inB n a b)) ∧ w = w' := by
  by_cases h : a ≤ n
  all_goals
    go_enter Tryd.func44, Tryd.ntmps44
    go_wp2
    go_ret
    exact ⟨ret_bool (by simp [inB, h]; try omega), rfl⟩

/-- whether a list has a number outside a range -/
def outB (xs : List Int) (a b : Int) : Bool := xs.any fun n => !inB n a b
theorem outB_false {xs : List Int} {a b : Int} : outB xs a b = false ↔ ∀ x ∈ xs, a ≤ x ∧ x ≤ b := by
  unfold outB; rw [List.any_eq_false]
  constructor
  · intro h x hx; have := h x hx; rw [← inB_iff]; simpa using this
  · intro h x hx; have := h x hx; rw [← inB_iff] at this; simp [this]

end Go.Proofs.YthpijecjifmnbaaDoor
