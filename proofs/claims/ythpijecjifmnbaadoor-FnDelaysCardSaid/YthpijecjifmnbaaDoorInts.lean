/-
The functions of the statements over slices of int64 (size, copy, equality, marks, held): each by its contract. Conditions: the slices read as lists of int64; lengths as the form's reach bounds them.
-/
import Derived.Test.YthpijecjifmnbaaDoorBase
namespace Go.Proofs.YthpijecjifmnbaaDoor
open Go.RowKit
set_option linter.unusedVariables false

theorem infoI : (Tryd.prog.info? 2).map (fun i => (i.zero, i.size, i.bytes)) = some (some (.int .i64 0), 1, 8) := by kernel_rfl

/-- what is left of a bound -/
def szOf (l : Int) (n : Nat) : Int := if l - n < 0 then -1 else l - n
theorem szOf_neg {l : Int} {n : Nat} (h : l - n < 0) : szOf l n = -1 := by unfold szOf; rw [if_pos h]
theorem szOf_or {s l : Int} {n : Nat} (h : s = szOf l n) : s = -1 ∨ (0 ≤ s ∧ s = l - (n : Int)) := by unfold szOf at h; split at h <;> omega
theorem szOf_pos {l : Int} {n : Nat} (h : ¬ l - n < 0) : szOf l n = l - n := by unfold szOf; rw [if_neg h]

/-- k, k + 1, .. : n numbers -/
def marks (k : Int) (n : Nat) : List Int := (List.range n).map fun (i : Nat) => k + (i : Int)
@[simp] theorem marks_length (k : Int) (n : Nat) : (marks k n).length = n := by simp [marks]
theorem marks_get (k : Int) (n i : Nat) (h : i < (marks k n).length) : (marks k n)[i] = k + (i : Int) := by simp [marks]
/-- the first k are marked, the rest is as it was -/
def marked (k0 : Int) (xs : List Int) (k : Nat) : List Int := marks k0 k ++ xs.drop k
theorem marked_length (k0 : Int) (xs : List Int) (k : Nat) (h : k ≤ xs.length) : (marked k0 xs k).length = xs.length := by simp [marked]; omega
theorem marked_set (k0 : Int) (xs : List Int) (k : Nat) (h : k < xs.length) : (marked k0 xs k).set k (k0 + (k : Int)) = marked k0 xs (k + 1) := by
  unfold marked
  rw [List.set_append_right _ _ (by simp)]
  have h1 : xs.drop k = xs[k] :: xs.drop (k + 1) := List.drop_eq_getElem_cons h
  have h2 : marks k0 (k + 1) = marks k0 k ++ [k0 + (k : Int)] := by simp [marks, List.range_succ]
  rw [h2]
  simp [marks]
  rw [h1]; rfl

theorem marked_setU (k0 : Int) (xs : List Int) (k : Nat) (u : Int) (h : k < xs.length) (hu : u = k0 + (k : Int)) : (marked k0 xs k).set k u = marked k0 xs (k + 1) := by rw [hu]; exact marked_set k0 xs k h

end Go.Proofs.YthpijecjifmnbaaDoor
