/-
Runs of a blower: the longest run is one of the runs, within the hours, and runs throughout; there are no more runs than hours. Plain laws. No condition beyond the premises.
-/
import Derived.Test.YtjleabgoajoegaaBlowF
namespace Go.Proofs.Ytjleabgoajoegaa
open Go.RowKit
set_option linter.unusedVariables false

theorem runsU_all (p : Nat → Bool) : ∀ k : Nat, ∀ r ∈ runsU p k, ∀ i : Nat, r.1 ≤ (i : Int) → (i : Int) < r.1 + r.2 → p i = true
  | 0 => by intro r hr; simp [runsU] at hr
  | k + 1 => by
    have ih := runsU_all p k
    cases hp : p k with
    | false => rw [runsU_no hp]; exact ih
    | true =>
      cases hw : wasOn p k with
      | false =>
        rw [runsU_new hp hw]
        intro r hr i h1 h2
        rcases List.mem_append.1 hr with hr | hr
        · exact ih r hr i h1 h2
        · obtain rfl := List.mem_singleton.1 hr
          have e : i = k := by simp only at h1 h2; omega
          rw [e]; exact hp
      | true =>
        obtain ⟨l, a, b, hl, hab⟩ := (runsU_inv p k).2.2 hw
        rw [runsU_on hp hw, hl, bump_snoc]
        rw [hl] at ih
        intro r hr i h1 h2
        rcases List.mem_append.1 hr with hr | hr
        · exact ih r (List.mem_append_left _ hr) i h1 h2
        · obtain rfl := List.mem_singleton.1 hr
          simp only at h1 h2
          by_cases e : (i : Int) < a + b
          · exact ih (a, b) (by simp) i h1 e
          · have e2 : i = k := by omega
            rw [e2]; exact hp
theorem better_or (b r : Int × Int) : better b r = b ∨ better b r = r := by unfold better; split <;> simp
theorem better_ge (b r : Int × Int) : b.2 ≤ (better b r).2 ∧ r.2 ≤ (better b r).2 := by unfold better; split <;> omega
theorem best_or : ∀ (rs : List (Int × Int)) (b : Int × Int), rs.foldl better b = b ∨ rs.foldl better b ∈ rs
  | [], b => .inl rfl
  | r :: rs, b => by
    rw [List.foldl_cons]
    rcases best_or rs (better b r) with h | h
    · rw [h]
      rcases better_or b r with h2 | h2
      · exact .inl h2
      · exact .inr (by rw [h2]; simp)
    · exact .inr (by simp [h])
theorem best_ge : ∀ (rs : List (Int × Int)) (b : Int × Int), b.2 ≤ (rs.foldl better b).2 ∧ ∀ r ∈ rs, r.2 ≤ (rs.foldl better b).2
  | [], b => ⟨Int.le_refl _, by simp⟩
  | r :: rs, b => by
    rw [List.foldl_cons]
    obtain ⟨h1, h2⟩ := best_ge rs (better b r)
    have h3 := better_ge b r
    refine ⟨by omega, fun q hq => ?_⟩
    rcases List.mem_cons.1 hq with rfl | hq
    · omega
    · exact h2 q hq
theorem bestR_mem {rs : List (Int × Int)} (h : ∀ r ∈ rs, 1 ≤ r.2) (h0 : rs ≠ []) : bestR rs ∈ rs := by
  rcases best_or rs (0, 0) with h1 | h1
  · cases rs with
    | nil => exact absurd rfl h0
    | cons r rs =>
      have h2 := (best_ge (r :: rs) (0, 0)).2 r (by simp)
      have h3 := h r (by simp)
      rw [h1] at h2
      simp only at h2; omega
  · exact h1
theorem hours_len : ∀ (rs : List (Int × Int)), (∀ r ∈ rs, 1 ≤ r.2) → (rs.length : Int) ≤ hoursL rs ∧ ∀ r ∈ rs, r.2 ≤ hoursL rs
  | [], _ => ⟨by simp [hoursL], by simp⟩
  | r :: rs, h => by
    obtain ⟨h1, h2⟩ := hours_len rs (fun q hq => h q (by simp [hq]))
    have h3 := h r (by simp)
    have e : hoursL (r :: rs) = r.2 + hoursL rs := by simp [hoursL]
    rw [e]
    refine ⟨by simp only [List.length_cons]; omega, fun q hq => ?_⟩
    rcases List.mem_cons.1 hq with rfl | hq
    · omega
    · have := h2 q hq; omega
end Go.Proofs.Ytjleabgoajoegaa
