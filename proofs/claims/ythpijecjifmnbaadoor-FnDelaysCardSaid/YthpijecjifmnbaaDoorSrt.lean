/-
Sorted copies of lists of numbers; the number that a share does not exceed. Plain laws.
-/
import Derived.Test.YthpijecjifmnbaaDoorBase
namespace Go.Proofs.YthpijecjifmnbaaDoor
open Go.RowKit
set_option linter.unusedVariables false

/-- a sorted copy -/
def IsSrt (xs s : List Int) : Prop := s.Perm xs ∧ s.Pairwise (· ≤ ·)
theorem IsSrt.uniq {xs s t : List Int} (h : IsSrt xs s) (h' : IsSrt xs t) : s = t :=
  List.Perm.eq_of_pairwise (fun a b _ _ h1 h2 => Int.le_antisymm h1 h2) h.2 h'.2 (h.1.trans h'.1.symm)
theorem IsSrt.len {xs s : List Int} (h : IsSrt xs s) : s.length = xs.length := h.1.length_eq
def srtI (xs : List Int) : List Int := xs.mergeSort fun x y => decide (x ≤ y)
theorem srtI_is (xs : List Int) : IsSrt xs (srtI xs) := by
  refine ⟨List.mergeSort_perm _ _, ?_⟩
  have := List.pairwise_mergeSort (le := fun x y : Int => decide (x ≤ y)) (by intro a b c h1 h2; simp at *; omega) (by intro a b; simp; omega) xs
  exact this.imp (by intro a b h; simpa using h)
theorem IsSrt.ins {xs s : List Int} {n : Int} {k : Nat} (h : IsSrt xs s) (hk : k ≤ s.length) (hgt : ∀ x ∈ s.drop k, n < x) (hle : ∀ x ∈ s.take k, x ≤ n) : IsSrt (xs ++ [n]) (s.take k ++ [n] ++ s.drop k) := by
  obtain ⟨hp, hw⟩ := h
  constructor
  · have h1 : (s.take k ++ [n] ++ s.drop k).Perm (n :: (s.take k ++ s.drop k)) := by
      rw [List.append_assoc]; exact List.perm_middle
    rw [List.take_append_drop] at h1
    exact h1.trans ((hp.cons n).trans (List.perm_append_singleton n xs).symm)
  · rw [← List.take_append_drop k s, List.pairwise_append] at hw
    obtain ⟨w1, w2, w3⟩ := hw
    rw [List.append_assoc, List.pairwise_append]
    refine ⟨w1, ?_, ?_⟩
    · simp only [List.singleton_append, List.pairwise_cons]
      exact ⟨fun x hx => Int.le_of_lt (hgt x hx), w2⟩
    · intro a ha b hb
      simp only [List.singleton_append, List.mem_cons] at hb
      rcases hb with rfl | hb
      · exact hle a ha
      · exact w3 a ha b hb
theorem srt_take {s : List Int} {n : Int} {k : Nat} (hw : s.Pairwise (· ≤ ·)) (hk : k < s.length) (h : s[k] ≤ n) : ∀ x ∈ s.take (k + 1), x ≤ n := by
  intro x hx
  obtain ⟨i, hi, rfl⟩ := List.mem_iff_getElem.1 hx
  simp only [List.length_take] at hi
  rw [List.getElem_take]
  rcases Nat.lt_or_ge i k with h2 | h2
  · have := List.pairwise_iff_getElem.1 hw i k (by omega) hk h2; omega
  · obtain rfl : i = k := by omega
    exact h
theorem drop_cons_gt {s : List Int} {n : Int} {k : Nat} (hk : k < s.length) (h : n < s[k]) (hgt : ∀ x ∈ s.drop (k + 1), n < x) : ∀ x ∈ s.drop k, n < x := by
  intro x hx
  rw [List.drop_eq_getElem_cons hk] at hx
  rcases List.mem_cons.1 hx with rfl | hx
  · exact h
  · exact hgt x hx

/-! the share -/
theorem cnt_ge {s : List Int} (hw : s.Pairwise (· ≤ ·)) {k : Nat} (hk : k < s.length) : k + 1 ≤ s.countP (fun x => decide (x ≤ s[k])) := by
  have h1 : (s.take (k + 1)).countP (fun x => decide (x ≤ s[k])) = k + 1 := by
    have h2 := (List.countP_eq_length (p := fun x => decide (x ≤ s[k])) (l := s.take (k + 1))).2 (by intro x hx; simpa using srt_take hw hk (Int.le_refl _) x hx)
    rw [h2]; simp; omega
  have := (List.take_sublist (k + 1) s).countP_le (p := fun x => decide (x ≤ s[k]))
  omega
theorem cnt_gt {s : List Int} (hw : s.Pairwise (· ≤ ·)) {k : Nat} (hk : k < s.length) {d : Int} (h : k < s.countP (fun x => decide (x ≤ d))) : s[k] ≤ d := by
  rcases Int.lt_or_le d s[k] with hlt | hle
  · exfalso
    have h1 : (s.drop k).countP (fun x => decide (x ≤ d)) = 0 := by
      rw [List.countP_eq_zero]
      intro x hx
      obtain ⟨i, hi, rfl⟩ := List.mem_iff_getElem.1 hx
      simp only [List.length_drop] at hi
      rw [List.getElem_drop]
      have : s[k] ≤ s[k + i] := by
        rcases Nat.eq_zero_or_pos i with rfl | h0
        · simp
        · exact List.pairwise_iff_getElem.1 hw k (k + i) hk (by omega) (by omega)
      simp; omega
    have h2 := List.countP_append (p := fun x => decide (x ≤ d)) (l₁ := s.take k) (l₂ := s.drop k)
    rw [List.take_append_drop, h1] at h2
    have h3 := List.countP_le_length (p := fun x => decide (x ≤ d)) (l := s.take k)
    simp at h3
    omega
  · exact hle
theorem share_yes {s : List Int} (hw : s.Pairwise (· ≤ ·)) {k i : Nat} (hki : k ≤ i) (hi : i < s.length) {m : Int} (hm : 1000 * (i : Int) < m) (ht : m ≤ 1000 * (s.countP (fun x => decide (x ≤ s[k])) : Nat)) : s[k] = s[i] := by
  have h1 : s[i] ≤ s[k] := cnt_gt hw hi (by omega)
  have h2 : s[k] ≤ s[i] := by
    rcases Nat.lt_or_ge k i with h | h
    · exact List.pairwise_iff_getElem.1 hw k i (by omega) hi h
    · obtain rfl : k = i := by omega
      exact Int.le_refl _
  omega
theorem share_no {s : List Int} (hw : s.Pairwise (· ≤ ·)) {i : Nat} (hi : i < s.length) {m : Int} (hm : m ≤ 1000 * ((i : Int) + 1)) : m ≤ 1000 * (s.countP (fun x => decide (x ≤ s[i])) : Nat) := by
  have := cnt_ge hw hi
  omega
def shareI (n : Nat) (p : Int) : Nat := ((p * n + 999) / 1000 - 1).toNat
theorem shareI_at {n : Nat} {p : Int} (hn : n ≠ 0) (h1 : 1 ≤ p) (h2 : p ≤ 1000) : shareI n p < n ∧ 1000 * (shareI n p : Int) < p * n ∧ p * n ≤ 1000 * ((shareI n p : Int) + 1) ∧ ((p * n + 999) / 1000 - 1) = (shareI n p : Int) ∧ 1 ≤ p * n ∧ p * n ≤ 1000 * n := by
  have a1 : (1 : Int) * n ≤ p * n := Int.mul_le_mul_of_nonneg_right h1 (by omega)
  have a2 : p * n ≤ 1000 * (n : Int) := Int.mul_le_mul_of_nonneg_right h2 (by omega)
  unfold shareI
  generalize p * (n : Int) = m at a1 a2 ⊢
  omega
end Go.Proofs.YthpijecjifmnbaaDoor
