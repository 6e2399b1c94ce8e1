/-
within, l00In and outside, each by its contract: whether a number lies in a range, whether a list has one that does not. Condition: the list's slice reads as a list of int64.
-/
import Derived.Test.YtlgeddbgbcineaaContains
import Derived.WalkSpells
namespace Go.Proofs.Ytlgeddbgbcineaa
open Go.RowKit
set_option linter.unusedVariables false

def inB (n a b : Int) : Bool := decide (a ≤ n) && decide (n ≤ b)
theorem inB_iff {n a b : Int} : inB n a b = true ↔ a ≤ n ∧ n ≤ b := by unfold inB; simp
theorem inB_false {n a b : Int} : inB n a b = false ↔ ¬ (a ≤ n ∧ n ≤ b) := by rw [← inB_iff]; simp

theorem within_any (n a b : Int) (w : World) : Calls Try.prog 63 #[.int .i64 n, .int .i64 a, .int .i64 b] w fun e w' => e = .returned (.bool (inB n a b)) ∧ w = w' := by
  by_cases h : a ≤ n
  all_goals
    go_enter Try.func63, Try.ntmps63
    go_wp2
    go_ret
    exact ⟨ret_bool (by simp [inB, h]; try omega), rfl⟩

theorem l00In_any (n a b : Int) (w : World) : Calls Try.prog 75 #[.int .i64 n, .int .i64 a, .int .i64 b] w fun e w' => e = .returned (.bool (inB n a b)) ∧ w = w' := by
  by_cases h : a ≤ n
  all_goals
    go_enter Try.func75, Try.ntmps75
    go_wp2
    go_ret
    exact ⟨ret_bool (by simp [inB, h]; try omega), rfl⟩

theorem outside1_any (n a b : Int) (B1 B2 : Nat) (w : World) (h1 : w.cell? ⟨B1, 0, none⟩ = some (.int .i64 a)) (h2 : w.cell? ⟨B2, 0, none⟩ = some (.int .i64 b)) :
    Calls Try.prog 78 #[.int .i64 n, .pointer (some ⟨B1, 0, none⟩), .pointer (some ⟨B2, 0, none⟩)] w fun e w' => e = .returned (.bool (!inB n a b)) ∧ w = w' := by
  go_enter Try.func78, Try.ntmps78
  go_wp2_with (go_at_call 63; refine (within_any _ _ _ _).mono ?_; rintro e w' ⟨rfl, rfl⟩)
  go_ret
  exact ⟨rfl, rfl⟩

/-- whether a list has a number outside a range -/
def outB (xs : List Int) (a b : Int) : Bool := xs.any fun n => !inB n a b
theorem outB_false {xs : List Int} {a b : Int} : outB xs a b = false ↔ ∀ x ∈ xs, a ≤ x ∧ x ≤ b := by
  unfold outB; rw [List.any_eq_false]
  constructor
  · intro h x hx; have := h x hx; rw [← inB_iff]; simpa using this
  · intro h x hx; have := h x hx; rw [← inB_iff] at this; simp [this]

theorem outside_any (v : Value) (xs : List Int) (a b : Int) (w : World) (hv : SlI w v xs) :
    Calls Try.prog 54 #[v, .int .i64 a, .int .i64 b] w fun e w' => e = .returned (.bool (outB xs a b)) ∧ Below w.heap.size w w' := by
  obtain ⟨A, c, rfl, hla, ha⟩ := hv.op
  have HV := Lib.hid hv; clear hv ha
  have HE : Hid (anyN (fun k => !inB (xs.getD k 0) a b) xs.length = outB xs a b) := anyN_list xs _ _ (fun k hk => by simp [List.getD_eq_getElem?_getD, hk])
  go_enter Try.func54, Try.ntmps54
  go_wp2_with fail
  refine (conI_any 78 _ (enters_of Try.func78 (by kernel_rfl) rfl) (fun k => !inB (xs.getD k 0) a b) _ xs.length (xs.map (Value.int .i64)) _ (HV.out.ex (below_alloc2 _ _ _)) ?_).mono ?_
  · intro k hk W hW
    obtain ⟨h1, h2⟩ := box2 hW
    have hk' : k < xs.length := by simpa using hk
    have hx : (xs.map (Value.int .i64))[k] = Value.int .i64 (xs.getD k 0) := by simp [List.getD_eq_getElem?_getD, hk']
    rw [hx]
    exact (outside1_any _ a b _ _ W h1 h2).mono fun e w' ⟨he, hw⟩ => ⟨he, hw ▸ Below.refl _ _⟩
  · rintro e w1 ⟨rfl, hb1⟩
    go_wp2
    go_ret
    exact ⟨ret_bool HE.out, below_next0 (below_alloc2 _ _ _) hb1⟩

end Go.Proofs.Ytlgeddbgbcineaa
