/-
Guests without some of them. Plain laws, no program.
-/
import Derived.Test.YtedoibgclplnaaaGReach
import Derived.Test.YtedoibgclplnaaaFewest
namespace Go.Proofs.Ytedoibgclplnaaa
set_option linter.unusedVariables false

def outG : Guest := ⟨-1, -1⟩
/-- guests without some of them -/
def wo (ts : List Guest) (X : List Int) : List Guest := X.foldl (fun l x => l.set x.toNat outG) ts
theorem wo_len : ∀ (X : List Int) (ts : List Guest), (wo ts X).length = ts.length
  | [], ts => rfl
  | x :: X, ts => by unfold wo; rw [List.foldl_cons]; have := wo_len X (ts.set x.toNat outG); unfold wo at this; rw [this]; simp
theorem wo_snoc (ts : List Guest) (X : List Int) (x : Int) : wo ts (X ++ [x]) = (wo ts X).set x.toNat outG := by unfold wo; rw [List.foldl_append]; rfl
theorem wo_at : ∀ (X : List Int) (ts : List Guest) (i : Nat) (hi : i < ts.length), (∀ x ∈ X, 0 ≤ x) → (wo ts X)[i]'(by rw [wo_len]; exact hi) = if (i : Int) ∈ X then outG else ts[i]
  | [], ts, i, hi, _ => by simp [wo]
  | x :: X, ts, i, hi, h => by
    have := wo_at X (ts.set x.toNat outG) i (by simpa using hi) (fun y hy => h y (by simp [hy]))
    have e : (wo ts (x :: X)) = wo (ts.set x.toNat outG) X := rfl
    have h0 := h x (by simp)
    simp only [e, this, List.getElem_set, List.mem_cons]
    by_cases e1 : (i : Int) ∈ X
    · simp [e1]
    · by_cases e2 : x.toNat = i
      · have : (i : Int) = x := by omega
        simp [this, e2]
      · have : (i : Int) ≠ x := by omega
        simp [e1, e2, this]
theorem wo_cnt : ∀ (X : List Int) (ts : List Guest) (j : Nat), cntH (wo ts X) j ≤ cntH ts j
  | [], ts, j => Nat.le_refl _
  | x :: X, ts, j => by
    have e : (wo ts (x :: X)) = wo (ts.set x.toNat outG) X := rfl
    rw [e]
    have h1 := wo_cnt X (ts.set x.toNat outG) j
    by_cases hx : x.toNat < ts.length
    · have h2 := cntH_set (j := j) (g := outG) hx
      have : (outG.here == (j : Int)) = false := by simp [outG]
      rw [this] at h2; simp at h2; omega
    · rw [List.set_eq_of_length_le (by omega)] at h1 ⊢; exact h1
theorem wo_fits {last : Int} (hl : -1 ≤ last) : ∀ (X : List Int) (ts : List Guest), (∀ (k : Nat) (hk : k < ts.length), Guest.fits last ts[k] = true) → ∀ (k : Nat) (hk : k < (wo ts X).length), Guest.fits last (wo ts X)[k] = true
  | [], ts, h, k, hk => h k hk
  | x :: X, ts, h, k, hk => wo_fits hl X (ts.set x.toNat outG) (fun i hi => by
      rw [List.getElem_set]; split
      · simp [Guest.fits, outG, inB, hl]
      · exact h i (by simpa using hi)) k hk
theorem wo_ok {rooms : List Int} {ts : List Guest} (h : roomsOk rooms ts = true) (X : List Int) : roomsOk rooms (wo ts X) = true := by
  obtain ⟨⟨h1, h1'⟩, h2, h3, h4, h5⟩ := roomsOk_at h
  rw [nonneg_iff] at h5
  exact roomsOk_mk h (wo_len X ts) (wo_fits (by unfold lastR; omega) X ts h4) (fun j hj => by have := wo_cnt X ts j; have := h5 j hj; omega)
/-- whether all others can go -/
def fe (rooms : List Int) (ts : List Guest) (X : List Int) : Bool := (fos ts.length (canS rooms (wo ts X)) (dnS (wo ts X)) 0).isSome
theorem fe_all (rooms : List Int) (ts : List Guest) : ∃ Y, Inc ts.length 0 Y ∧ Y.length = ts.length ∧ fe rooms ts Y = true := by
  have hs : ∀ n, subL n (2 ^ n - 1) = (List.range n).map fun (i : Nat) => (i : Int) := fun n => by
    unfold subL; congr 1
    rw [List.filter_eq_self]
    intro a ha
    rw [Nat.testBit_two_pow_sub_one]; simpa using ha
  refine ⟨subL ts.length (2 ^ ts.length - 1), subL_inc _ _, by rw [hs]; simp, ?_⟩
  unfold fe
  rw [fos_done ?_]
  · rfl
  · unfold dnS
    rw [gn_zero, List.all_eq_true]
    intro x hx
    obtain ⟨i, hi, rfl⟩ := List.mem_iff_getElem.1 hx
    rw [wo_len] at hi
    rw [wo_at _ _ i hi (fun x hx => by obtain ⟨j, rfl, _⟩ := subL_mem.1 hx; omega), if_pos]
    · rfl
    · rw [hs]; exact List.mem_map.2 ⟨i, by simpa using hi, rfl⟩
end Go.Proofs.Ytedoibgclplnaaa
