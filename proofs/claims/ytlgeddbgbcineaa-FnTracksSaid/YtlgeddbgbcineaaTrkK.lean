/-
The tracks of readings: what FnTracks asks of them, in plain Lean, no program.
-/
import Derived.Test.YtlgeddbgbcineaaKuhnC
import Derived.Test.YtlgeddbgbcineaaSensC
namespace Go.Proofs.Ytlgeddbgbcineaa
open Go.RowKit
set_option linter.unusedVariables false

/-- which readings may follow which, by index -/
def edG (gs : List (List Int)) (ts : List Reading) (i b : Nat) : Bool := mayP gs (rdg ts (i : Int)) (rdg ts (b : Int))
def lvG (ts : List Reading) (i : Nat) : Nat := (rdg ts (i : Int)).sensor.toNat
theorem edG_at {gs : List (List Int)} {ts : List Reading} {i b : Nat} (hi : i < ts.length) (hb : b < ts.length) : edG gs ts i b = mayP gs ts[i] ts[b] := by
  unfold edG; rw [rdg_at hi, rdg_at hb]
theorem lvG_le {gs : List (List Int)} {ts : List Reading} (h : readsOk gs ts = true) {i : Nat} (hi : i < ts.length) : lvG ts i ≤ gs.length ∧ lvG ts i ≤ 7 ∧ (lvG ts i : Int) = ts[i].sensor := by
  obtain ⟨h1, h2, h3⟩ := readsOk_at h
  obtain ⟨h4, h5⟩ := h3 i hi
  unfold lvG
  rw [rdg_at hi]
  omega
theorem edG_lv {gs : List (List Int)} {ts : List Reading} (h : readsOk gs ts = true) (i b : Nat) (hi : i < ts.length) (hb : b < ts.length) (he : edG gs ts i b = true) : lvG ts b = lvG ts i + 1 := by
  rw [edG_at hi hb] at he
  unfold mayP at he
  rw [Bool.and_eq_true] at he
  have h1 := eq_of_beq he.1
  have h2 := (lvG_le h hi).2.2
  have h3 := (lvG_le h hb).2.2
  omega
/-- the followers, and the tracks -/
def fsG (gs : List (List Int)) (ts : List Reading) : List Int := folK (edG gs ts) ts.length ts.length
def trG (gs : List (List Int)) (ts : List Reading) : List (List Int) := trK (fsG gs ts) ts.length
def fewG (gs : List (List Int)) (ts : List Reading) : Nat := ts.length - mostK (edG gs ts) ts.length
theorem fsG_len (gs : List (List Int)) (ts : List Reading) : (fsG gs ts).length = ts.length := fol_len _ _ _
theorem fsG_ok (gs : List (List Int)) (ts : List Reading) : FsOk (edG gs ts) ts.length (fsG gs ts) := fol_ok _ _ _ (Nat.le_refl _)
theorem rise_of {gs : List (List Int)} {ts fs' : List Reading} {fs : List Int} (h : readsOk gs ts = true) (hok : FsOk (edG gs ts) ts.length fs) (hl : fs.length = ts.length) : Rise (lvG ts) ts.length fs := by
  intro i hi
  refine ⟨(lvG_le h hi).2.1, ?_⟩
  rcases hok.ed i (by omega) with h1 | ⟨b, hb, h1, h2⟩
  · exact .inl h1
  · exact .inr ⟨b, hb, h1, edG_lv h i b hi hb h2⟩
theorem riseG {gs : List (List Int)} {ts : List Reading} (h : readsOk gs ts = true) : Rise (lvG ts) ts.length (fsG gs ts) := rise_of (fs' := ts) h (fsG_ok gs ts) (fsG_len gs ts)
theorem trG_len (gs : List (List Int)) (ts : List Reading) : (trG gs ts).length = fewG gs ts := by
  have := tracks_few (edG gs ts) ts.length
  unfold trG fsG fewG; omega
theorem trG_idx {gs : List (List Int)} {ts : List Reading} (h : readsOk gs ts = true) : idxOk ts.length (trG gs ts) = true := by
  unfold idxOk
  rw [List.all_eq_true]
  intro t ht
  rw [List.all_eq_true]
  intro x hx
  have := flat_in (riseG h) (x := x) (List.mem_flatten.2 ⟨t, ht, hx⟩)
  exact inB_iff.2 ⟨by omega, by omega⟩
theorem trG_are {gs : List (List Int)} {ts : List Reading} (h : readsOk gs ts = true) : areP gs ts (trG gs ts) = true := by
  have hr := riseG h
  have hl := fsG_len gs ts
  unfold trG
  rw [are_end ?_ (flat_nodup hr (fsG_ok gs ts) hl _ (Nat.le_refl _))]
  · exact decide_eq_true (flatK_len hr (fsG_ok gs ts) hl)
  · intro t ht
    obtain ⟨i, i1, i2, i3⟩ := mem_trK _ ht
    subst i3
    refine ⟨by rw [chn_pos hr i1]; simp, ?_⟩
    unfold chainB
    rw [List.all_eq_true]
    intro k hk
    have hk := List.mem_range.1 hk
    cases k with
    | zero => exact chK_zero
    | succ k =>
      rw [chK_pos (by omega) hk]
      obtain ⟨p, q, p1, q1, p2, q2, pq⟩ := chT_step hr 9 i k i1 hk
      have e1 : (chn (fsG gs ts) (i : Int))[k + 1 - 1]'(by omega) = (p : Int) := p2
      have e2 : (chn (fsG gs ts) (i : Int))[k + 1] = (q : Int) := q2
      rw [e1, e2]
      rcases (fsG_ok gs ts).ed p (by omega) with h1 | ⟨b, hb, h1, h2⟩
      · omega
      · have : b = q := by omega
        subst this
        exact h2
/-- each reading a track of its own -/
def snG (n : Nat) : List (List Int) := (List.range n).map (fun j : Nat => [(j : Int)])
theorem snG_flat (n : Nat) : (snG n).flatten = (List.range n).map (fun j : Nat => (j : Int)) := by
  unfold snG
  rw [← List.flatMap_def]
  induction List.range n with
  | nil => rfl
  | cons a l ih => rw [List.flatMap_cons, ih]; rfl
theorem snG_idx (n : Nat) : idxOk n (snG n) = true := by
  unfold idxOk snG
  rw [List.all_eq_true]
  intro t ht
  obtain ⟨j, hj, rfl⟩ := List.mem_map.1 ht
  have := List.mem_range.1 hj
  simp only [List.all_cons, List.all_nil, Bool.and_true]
  exact inB_iff.2 ⟨by omega, by omega⟩
theorem snG_are (gs : List (List Int)) (ts : List Reading) : areP gs ts (snG ts.length) = true := by
  rw [are_end ?_ ?_]
  · rw [snG_flat]; simp
  · intro t ht
    obtain ⟨j, hj, rfl⟩ := List.mem_map.1 ht
    exact ⟨by simp, by simp [chainB, chK]⟩
  · rw [snG_flat]; exact rangeI_nodup _
theorem snG_succ (n : Nat) : snG (n + 1) = snG n ++ [[(n : Int)]] := by simp [snG, List.range_succ]
theorem snG_len (n : Nat) : (snG n).length = n := by simp [snG]
/-! the counts of the sensors -/
theorem seen_count {gs : List (List Int)} {ts : List Reading} (h : readsOk gs ts = true) (i : Nat) (hi : i < gs.length + 1) : ∀ k, k ≤ ts.length → ((seenK ts (gs.length + 1) k).getD i 0) = ((List.range k).countP (fun j => decide (lvG ts j = i)) : Int)
  | 0, _ => by simp [seenK, List.getD_eq_getElem?_getD, hi]
  | k + 1, hk => by
    have ih := seen_count h i hi k (by omega)
    have hl := (seenK_inv ts (gs.length + 1) k (by omega)).1
    have hlv := lvG_le h (show k < ts.length by omega)
    have e : ts[k].sensor.toNat = lvG ts k := by omega
    rw [seenK_succ (by omega), e, List.range_succ, List.countP_append, List.countP_singleton]
    unfold addAt
    rw [List.getD_eq_getElem?_getD, List.getElem?_set]
    by_cases e2 : lvG ts k = i
    · rw [if_pos e2, if_pos (by omega), e2]
      simp only [Option.getD_some]
      rw [ih]; simp
    · rw [if_neg e2, ← List.getD_eq_getElem?_getD, ih]; simp [e2]
theorem sum_addAt (l : List Int) (i : Nat) (hi : i < l.length) : (addAt l i).sum = l.sum + 1 := by
  unfold addAt
  induction l generalizing i with
  | nil => simp at hi
  | cons a l ih =>
    cases i with
    | zero => simp; omega
    | succ i => simp at hi; have := ih i hi; simp at this ⊢; omega
theorem seen_sum {gs : List (List Int)} {ts : List Reading} (h : readsOk gs ts = true) : ∀ k, k ≤ ts.length → (seenK ts (gs.length + 1) k).sum = (k : Int)
  | 0, _ => by simp [seenK]
  | k + 1, hk => by
    have hl := (seenK_inv ts (gs.length + 1) k (by omega)).1
    have hlv := lvG_le h (show k < ts.length by omega)
    rw [seenK_succ (by omega), sum_addAt _ _ (by omega), seen_sum h k (by omega)]; omega
theorem seen_few {gs : List (List Int)} {ts : List Reading} (h : readsOk gs ts = true) (i : Nat) (hi : i < (seenK ts (gs.length + 1) ts.length).length) : (seenK ts (gs.length + 1) ts.length)[i] ≤ (fewG gs ts : Int) := by
  have hl := (seenK_inv ts (gs.length + 1) ts.length (Nat.le_refl _)).1
  have h1 := seen_count h i (by omega) ts.length (Nat.le_refl _)
  rw [List.getD_eq_getElem?_getD, List.getElem?_eq_getElem hi, Option.getD_some] at h1
  rw [h1]
  have h2 := level_le (edG gs ts) (lvG ts) ts.length i (edG_lv h)
  unfold fewG
  omega
theorem lost_sum {m : Nat} {ts : List Reading} {tr : List (List Int)} : ∀ i, i ≤ tr.length → (lostS m ts tr i).sum ≤ (i : Int)
  | 0, _ => by simp [lostS]
  | i + 1, h => by
    have ih := lost_sum (m := m) (ts := ts) i (show i ≤ tr.length by omega)
    obtain ⟨h1, -⟩ := lostS_inv (m := m) (ts := ts) i (show i ≤ tr.length by omega)
    rw [lostS_succ (by omega)]
    split
    · have : incL = addAt := rfl
      rw [this, sum_addAt _ _ (by omega)]; omega
    · omega
theorem fewG_le (gs : List (List Int)) (ts : List Reading) : fewG gs ts ≤ ts.length := by unfold fewG; omega
end Go.Proofs.Ytlgeddbgbcineaa
