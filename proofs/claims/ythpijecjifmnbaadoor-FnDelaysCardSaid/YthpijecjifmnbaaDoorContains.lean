/-
slices.IndexFunc and slices.ContainsFunc at the element types of this seat, for whatever predicate: the first index, whether there is one. Condition: the function value answers each element and only makes new memory.
-/
import Derived.Test.YthpijecjifmnbaaDoorBase
import Derived.Deep.LoopGhost
import Derived.Shelf.Abstract
namespace Go.Proofs.YthpijecjifmnbaaDoor
open Go.RowKit
set_option linter.unusedVariables false

/-- the first number below n for which p says yes, -1 if there is none -/
def firstN (p : Nat → Bool) (n : Nat) : Int := match (List.range n).find? p with | some k => (k : Int) | none => -1
def anyN (p : Nat → Bool) (n : Nat) : Bool := (List.range n).any p
theorem anyN_iff {p : Nat → Bool} {n : Nat} : anyN p n = true ↔ ∃ k, k < n ∧ p k = true := by unfold anyN; simp
theorem anyN_false {p : Nat → Bool} {n : Nat} : anyN p n = false ↔ ∀ k, k < n → p k = false := by unfold anyN; simp
theorem anyN_congr {p q : Nat → Bool} {n : Nat} (h : ∀ k, k < n → p k = q k) : anyN p n = anyN q n := by
  cases hq : anyN q n with
  | true => obtain ⟨k, hk, hp⟩ := anyN_iff.1 hq; exact anyN_iff.2 ⟨k, hk, by rw [h k hk]; exact hp⟩
  | false => exact anyN_false.2 fun k hk => by rw [h k hk]; exact anyN_false.1 hq k hk
/-- of a list's elements -/
theorem anyN_list {α : Type} (xs : List α) (q : α → Bool) (p : Nat → Bool) (h : ∀ k (hk : k < xs.length), p k = q xs[k]) : anyN p xs.length = xs.any q := by
  rw [Bool.eq_iff_iff, anyN_iff, List.any_eq_true]
  constructor
  · rintro ⟨k, hk, hp⟩; exact ⟨xs[k], List.getElem_mem hk, by rw [← h k hk]; exact hp⟩
  · rintro ⟨x, hx, hq⟩; obtain ⟨k, hk, rfl⟩ := List.getElem_of_mem hx; exact ⟨k, hk, by rw [h k hk]; exact hq⟩
theorem firstN_hit {p : Nat → Bool} {n k : Nat} (hk : k < n) (hp : p k = true) (h : ∀ j, j < k → p j = false) : firstN p n = (k : Int) := by
  have : (List.range n).find? p = some k := by
    rw [List.find?_eq_some_iff_getElem]
    exact ⟨hp, k, by simpa using hk, by simp, fun j hj => by simp [h j hj]⟩
  unfold firstN; rw [this]
theorem firstN_miss {p : Nat → Bool} {n : Nat} (h : ∀ j, j < n → p j = false) : firstN p n = -1 := by
  have : (List.range n).find? p = none := by
    rw [List.find?_eq_none]; intro x hx; simp [h x (by simpa using hx)]
  unfold firstN; rw [this]
theorem firstN_nonneg (p : Nat → Bool) (n : Nat) : decide (0 ≤ firstN p n) = anyN p n := by
  cases ha : anyN p n with
  | false => rw [firstN_miss (anyN_false.1 ha)]; rfl
  | true =>
    obtain ⟨k, hk, hp⟩ := anyN_iff.1 ha
    have : ∃ m, (List.range n).find? p = some m := by
      rw [← Option.isSome_iff_exists, List.find?_isSome]; exact ⟨k, by simpa using hk, hp⟩
    obtain ⟨m, hm⟩ := this
    unfold firstN; rw [hm]; simp

end Go.Proofs.YthpijecjifmnbaaDoor
