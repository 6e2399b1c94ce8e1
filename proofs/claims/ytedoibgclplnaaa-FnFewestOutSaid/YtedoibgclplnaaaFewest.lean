/-
The best of all sets, by length and then by order; the first of so many. Plain laws, no program.
-/
import Derived.Test.YtedoibgclplnaaaReach
namespace Go.Proofs.Ytedoibgclplnaaa
set_option linter.unusedVariables false

/-- the order of two lists, as slices.Compare tells it -/
def cmpL : List Int → List Int → Int
  | [], [] => 0
  | [], _ :: _ => -1
  | _ :: _, [] => 1
  | a :: x, b :: y => if a < b then -1 else if b < a then 1 else cmpL x y
theorem cmpL_self : ∀ x : List Int, cmpL x x = 0
  | [] => rfl
  | a :: x => by simp [cmpL, cmpL_self x]
theorem cmpL_zero : ∀ {x y : List Int}, cmpL x y = 0 → x = y
  | [], [], _ => rfl
  | [], _ :: _, h => by simp [cmpL] at h
  | _ :: _, [], h => by simp [cmpL] at h
  | a :: x, b :: y, h => by
    unfold cmpL at h
    split at h
    · cases h
    · split at h
      · cases h
      · rw [cmpL_zero h, show a = b by omega]
theorem cmpL_trans : ∀ {x y z : List Int}, cmpL x y < 0 → cmpL y z < 0 → cmpL x z < 0
  | [], [], _, h, _ => by simp [cmpL] at h
  | [], _ :: _, [], _, h => by simp [cmpL] at h
  | [], _ :: _, _ :: _, _, _ => by simp [cmpL]
  | _ :: _, [], _, h, _ => by simp [cmpL] at h
  | _ :: _, _ :: _, [], _, h => by simp [cmpL] at h
  | a :: x, b :: y, c :: z, h, k => by
    unfold cmpL at h k ⊢
    by_cases h1 : a < b
    · by_cases k1 : b < c
      · rw [if_pos (by omega)]; omega
      · by_cases k2 : c < b
        · rw [if_neg k1, if_pos k2] at k; omega
        · rw [if_pos (by omega)]; omega
    · by_cases h2 : b < a
      · rw [if_neg h1, if_pos h2] at h; omega
      · rw [if_neg h1, if_neg h2] at h
        by_cases k1 : b < c
        · rw [if_pos (by omega)]; omega
        · by_cases k2 : c < b
          · rw [if_neg k1, if_pos k2] at k; omega
          · rw [if_neg k1, if_neg k2] at k
            rw [if_neg (by omega), if_neg (by omega)]
            exact cmpL_trans h k
theorem cmpL_flip : ∀ {x y : List Int}, ¬ cmpL x y < 0 → x ≠ y → cmpL y x < 0
  | [], [], _, h => absurd rfl h
  | [], _ :: _, h, _ => by simp [cmpL] at h
  | _ :: _, [], _, _ => by simp [cmpL]
  | a :: x, b :: y, h, k => by
    unfold cmpL at h ⊢
    by_cases h1 : a < b
    · rw [if_pos h1] at h; omega
    · by_cases h2 : b < a
      · rw [if_pos h2]; omega
      · rw [if_neg h1, if_neg h2] at h
        rw [if_neg h2, if_neg h1]
        exact cmpL_flip h (fun e => k (by rw [e, show a = b by omega]))
theorem cmpL_bd : ∀ x y : List Int, -1 ≤ cmpL x y ∧ cmpL x y ≤ 1
  | [], [] => by simp [cmpL]
  | [], _ :: _ => by simp [cmpL]
  | _ :: _, [] => by simp [cmpL]
  | a :: x, b :: y => by
    have := cmpL_bd x y
    unfold cmpL; split
    · omega
    · split <;> omega
def less (a b : List Int) : Prop := a.length < b.length ∨ a.length = b.length ∧ cmpL a b < 0
theorem less_trans {a b c : List Int} (h : less a b) (k : less b c) : less a c := by
  rcases h with h | ⟨h, h'⟩ <;> rcases k with k | ⟨k, k'⟩
  · exact .inl (by omega)
  · exact .inl (by omega)
  · exact .inl (by omega)
  · exact .inr ⟨by omega, cmpL_trans h' k'⟩
theorem less_irrefl {a : List Int} : ¬ less a a := by
  rintro (h | ⟨_, h⟩)
  · omega
  · rw [cmpL_self] at h; omega
theorem less_total {a b : List Int} (h : ¬ less a b) : b = a ∨ less b a := by
  by_cases e : b = a
  · exact .inl e
  · refine .inr ?_
    by_cases hl : b.length < a.length
    · exact .inl hl
    · by_cases hl2 : a.length < b.length
      · exact absurd (.inl hl2) h
      · exact .inr ⟨by omega, cmpL_flip (fun hc => h (.inr ⟨by omega, hc⟩)) (fun e2 => e e2.symm)⟩
/-- the guests of a set, from the first on -/
def subL (k s : Nat) : List Int := ((List.range k).filter fun i => s.testBit i).map fun (i : Nat) => (i : Int)
theorem subL_yes {k s : Nat} (h : s.testBit k = true) : subL (k + 1) s = subL k s ++ [(k : Int)] := by simp [subL, List.range_succ, List.filter_append, h]
theorem subL_no {k s : Nat} (h : s.testBit k = false) : subL (k + 1) s = subL k s := by simp [subL, List.range_succ, List.filter_append, h]
theorem subL_len (k s : Nat) : (subL k s).length ≤ k := by
  unfold subL; rw [List.length_map]; exact Nat.le_trans (List.length_filter_le _ _) (by simp)
theorem subL_mem {k s : Nat} {x : Int} : x ∈ subL k s ↔ ∃ i : Nat, x = i ∧ i < k ∧ s.testBit i = true := by
  unfold subL
  simp only [List.mem_map, List.mem_filter, List.mem_range]
  constructor
  · rintro ⟨i, ⟨h1, h2⟩, rfl⟩; exact ⟨i, rfl, h1, h2⟩
  · rintro ⟨i, rfl, h1, h2⟩; exact ⟨i, ⟨h1, h2⟩, rfl⟩
/-- rising numbers from a on, below n -/
inductive Inc (n : Nat) : Nat → List Int → Prop
  | nil {a} : Inc n a []
  | cons {a i : Nat} {l} : a ≤ i → i < n → Inc n (i + 1) l → Inc n a ((i : Int) :: l)
theorem Inc.len {n : Nat} : ∀ {a : Nat} {l : List Int}, Inc n a l → l ≠ [] → a + l.length ≤ n
  | _, _, .nil, h => absurd rfl h
  | a, _, .cons (l := []) h1 h2 h3, _ => by simp; omega
  | a, _, .cons (l := x :: l) h1 h2 h3, _ => by have := h3.len (by simp); simp at this ⊢; omega
theorem Inc.mono {n a b : Nat} {l : List Int} (h : Inc n a l) (hb : b ≤ a) : Inc n b l := by
  cases h with
  | nil => exact .nil
  | cons h1 h2 h3 => exact .cons (by omega) h2 h3
theorem Inc.append {n : Nat} : ∀ {a : Nat} {l : List Int} {k : Nat}, Inc k a l → k < n → a ≤ k → Inc n a (l ++ [(k : Int)])
  | _, _, _, .nil, h, h' => .cons h' h .nil
  | _, _, _, .cons h1 h2 h3, h, h' => .cons h1 (by omega) (h3.append h (by omega))
theorem Inc.up {n n' : Nat} (hn : n ≤ n') : ∀ {a : Nat} {l : List Int}, Inc n a l → Inc n' a l
  | _, _, .nil => .nil
  | _, _, .cons h1 h2 h3 => .cons h1 (by omega) (h3.up hn)
theorem subL_inc : ∀ n s : Nat, Inc n 0 (subL n s)
  | 0, s => by simp [subL]; exact .nil
  | n + 1, s => by
    cases h : s.testBit n with
    | true => rw [subL_yes h]; exact (subL_inc n s).append (by omega) (by omega)
    | false => rw [subL_no h]; exact (subL_inc n s).up (by omega)
theorem Inc.split {n : Nat} : ∀ {a : Nat} {l : List Int}, Inc (n + 1) a l → Inc n a l ∨ ∃ l', l = l' ++ [(n : Int)] ∧ Inc n a l'
  | _, _, .nil => .inl .nil
  | _, _, .cons (i := i) (l := l) h1 h2 h3 => by
    by_cases e : i = n
    · subst e
      refine .inr ⟨[], ?_, .nil⟩
      have : l = [] := by
        rcases Nat.eq_zero_or_pos l.length with h0 | h0
        · exact List.eq_nil_of_length_eq_zero h0
        · have := h3.len (by intro e; simp [e] at h0); omega
      rw [this]; rfl
    · rcases h3.split with h | ⟨l', rfl, h⟩
      · exact .inl (.cons h1 (by omega) h)
      · exact .inr ⟨_ :: l', rfl, .cons h1 (by omega) h⟩
theorem testBit_big {n s i : Nat} (h : s < 2 ^ n) (hi : n ≤ i) : s.testBit i = false :=
  Nat.testBit_lt_two_pow (Nat.lt_of_lt_of_le h (Nat.pow_le_pow_right (by omega) hi))
theorem inc_subL : ∀ {n : Nat} {l : List Int}, Inc n 0 l → ∃ s, s < 2 ^ n ∧ subL n s = l
  | 0, l, h => by
    cases h with
    | nil => exact ⟨0, by simp, by simp [subL]⟩
    | cons h1 h2 h3 => omega
  | n + 1, l, h => by
    have hp : 2 ^ (n + 1) = 2 * 2 ^ n := by rw [Nat.pow_succ]; omega
    rcases h.split with h4 | ⟨l', rfl, h4⟩
    · obtain ⟨s, hs, rfl⟩ := inc_subL h4
      exact ⟨s, by omega, subL_no (testBit_big hs (Nat.le_refl _))⟩
    · obtain ⟨s, hs, rfl⟩ := inc_subL h4
      have hlt := or_lt (n := n + 1) (k := n) (show s < 2 ^ (n + 1) by omega) (by omega)
      refine ⟨s ||| 2 ^ n, hlt, ?_⟩
      rw [subL_yes (by simp)]
      congr 1
      unfold subL
      congr 1
      apply List.filter_congr
      intro x hx
      have hx : x < n := by simpa using hx
      rw [testBit_or_pow]; simp; omega
section
variable (n : Nat) (fe : List Int → Bool)
/-- the best list of all -/
def IsBest (X : List Int) : Prop := Inc n 0 X ∧ fe X = true ∧ ∀ Y, Inc n 0 Y → fe Y = true → Y = X ∨ less X Y
theorem IsBest.unique {n : Nat} {fe : List Int → Bool} {X Y : List Int} (h : IsBest n fe X) (k : IsBest n fe Y) : X = Y := by
  rcases h.2.2 Y k.1 k.2.1 with e | h1
  · exact e.symm
  · rcases k.2.2 X h.1 h.2.1 with e | h2
    · exact e
    · exact absurd (less_trans h1 h2) less_irrefl
/-- the best of the sets below s -/
def BestTo (s : Nat) (found : Bool) (X : List Int) : Prop :=
  (found = false ∧ X = [] ∧ ∀ S, S < s → fe (subL n S) = false) ∨ (found = true ∧ Inc n 0 X ∧ fe X = true ∧ ∀ S, S < s → fe (subL n S) = true → subL n S = X ∨ less X (subL n S))
variable {n fe}
theorem bestTo_zero : BestTo n fe 0 false [] := .inl ⟨rfl, rfl, fun S h => by omega⟩
theorem bestTo_skip {s : Nat} {X : List Int} (h : BestTo n fe s true X) (hl : ¬ less (subL n s) X) : BestTo n fe (s + 1) true X := by
  rcases h with ⟨h, _⟩ | ⟨_, h1, h2, h3⟩
  · cases h
  · refine .inr ⟨rfl, h1, h2, fun S hS hf => ?_⟩
    by_cases e : S = s
    · subst e
      rcases less_total hl with h | h
      · exact .inl h.symm
      · exact .inr h
    · exact h3 S (by omega) hf
theorem bestTo_no {s : Nat} {b : Bool} {X : List Int} (h : BestTo n fe s b X) (hf : fe (subL n s) = false) : BestTo n fe (s + 1) b X := by
  rcases h with ⟨h0, h1, h2⟩ | ⟨h0, h1, h2, h3⟩
  · refine .inl ⟨h0, h1, fun S hS => ?_⟩
    by_cases e : S = s
    · subst e; exact hf
    · exact h2 S (by omega)
  · refine .inr ⟨h0, h1, h2, fun S hS hff => ?_⟩
    by_cases e : S = s
    · subst e; rw [hf] at hff; cases hff
    · exact h3 S (by omega) hff
theorem bestTo_yes {s : Nat} {b : Bool} {X : List Int} (h : BestTo n fe s b X) (hl : b = true → less (subL n s) X) (hf : fe (subL n s) = true) : BestTo n fe (s + 1) true (subL n s) := by
  refine .inr ⟨rfl, subL_inc n s, hf, fun S hS hff => ?_⟩
  by_cases e : S = s
  · subst e; exact .inl rfl
  · rcases h with ⟨h0, h1, h2⟩ | ⟨h0, h1, h2, h3⟩
    · rw [h2 S (by omega)] at hff; cases hff
    · rcases h3 S (by omega) hff with e2 | h4
      · rw [e2]; exact .inr (hl h0)
      · exact .inr (less_trans (hl h0) h4)
theorem bestTo_end {b : Bool} {X : List Int} (h : BestTo n fe (2 ^ n) b X) (hex : ∃ Y, Inc n 0 Y ∧ fe Y = true) : IsBest n fe X := by
  obtain ⟨Y, hY, hYf⟩ := hex
  rcases h with ⟨h0, h1, h2⟩ | ⟨h0, h1, h2, h3⟩
  · obtain ⟨s, hs, rfl⟩ := inc_subL hY
    rw [h2 s hs] at hYf; cases hYf
  · refine ⟨h1, h2, fun Z hZ hf => ?_⟩
    obtain ⟨s, hs, rfl⟩ := inc_subL hZ
    exact h3 s hs hf
variable (n fe)
/-- the first of so many, from an index on, behind those that are out -/
def First (out : List Int) (a m : Nat) (X : List Int) : Prop := ∃ Y, X = out ++ Y ∧ Inc n a Y ∧ Y.length = m ∧ fe X = true ∧ ∀ Z, Inc n a Z → Z.length = m → fe (out ++ Z) = true → Z = Y ∨ cmpL Y Z < 0
def None (out : List Int) (a m : Nat) : Prop := ∀ Z, Inc n a Z → Z.length = m → fe (out ++ Z) = false
variable {n fe}
theorem first_zero {out : List Int} {a : Nat} (h : fe out = true) : First n fe out a 0 out :=
  ⟨[], by simp, .nil, rfl, h, fun Z _ hz _ => .inl (List.eq_nil_of_length_eq_zero hz)⟩
theorem none_zero {out : List Int} {a : Nat} (h : fe out = false) : None n fe out a 0 := fun Z _ hz => by
  rw [List.eq_nil_of_length_eq_zero hz, List.append_nil]; exact h
theorem none_over {out : List Int} {i m : Nat} (hi : n < i + (m + 1)) : None n fe out i (m + 1) := fun Z h hz => by
  have := h.len (by intro e; simp [e] at hz); omega
theorem none_step {out : List Int} {i m : Nat} (h : None n fe (out ++ [(i : Int)]) (i + 1) m) (h' : None n fe out (i + 1) (m + 1)) : None n fe out i (m + 1) := fun Z hZ hz => by
  cases hZ with
  | nil => cases hz
  | @cons _ j l h1 h2 h3 =>
    by_cases e : j = i
    · subst e
      have := h l h3 (by simpa using hz)
      simpa using this
    · exact h' _ (.cons (by omega) h2 h3) hz
theorem first_step {out X : List Int} {i m : Nat} (hi : i < n) (h : First n fe (out ++ [(i : Int)]) (i + 1) m X) : First n fe out i (m + 1) X := by
  obtain ⟨Y, rfl, h1, h2, h3, h4⟩ := h
  refine ⟨(i : Int) :: Y, by simp, .cons (Nat.le_refl _) hi h1, by simp [h2], h3, fun Z hZ hz hf => ?_⟩
  cases hZ with
  | nil => cases hz
  | @cons _ j l k1 k2 k3 =>
    by_cases e : j = i
    · subst e
      rcases h4 l k3 (by simpa using hz) (by simpa using hf) with h | h
      · exact .inl (by rw [h])
      · refine .inr ?_; unfold cmpL; simpa using h
    · refine .inr ?_; unfold cmpL; rw [if_pos (by omega)]; omega
theorem first_skip {out X : List Int} {i m : Nat} (h : None n fe (out ++ [(i : Int)]) (i + 1) m) (h' : First n fe out (i + 1) (m + 1) X) : First n fe out i (m + 1) X := by
  obtain ⟨Y, rfl, h1, h2, h3, h4⟩ := h'
  refine ⟨Y, rfl, h1.mono (by omega), h2, h3, fun Z hZ hz hf => ?_⟩
  cases hZ with
  | nil => cases hz
  | @cons _ j l k1 k2 k3 =>
    by_cases e : j = i
    · subst e
      have := h l k3 (by simpa using hz)
      simp only [List.append_assoc, List.singleton_append] at this
      rw [this] at hf; cases hf
    · exact h4 _ (.cons (by omega) k2 k3) hz hf
theorem first_best {X : List Int} {m : Nat} (h : First n fe [] 0 m X) (h' : ∀ k, k < m → None n fe [] 0 k) : IsBest n fe X := by
  obtain ⟨Y, rfl, h1, h2, h3, h4⟩ := h
  simp only [List.nil_append] at h3 h4 ⊢
  refine ⟨h1, h3, fun Z hZ hf => ?_⟩
  rcases Nat.lt_trichotomy Z.length m with hl | hl | hl
  · have := h' _ hl Z hZ rfl; simp [hf] at this
  · rcases h4 Z hZ hl hf with e | h
    · exact .inl e
    · exact .inr (.inr ⟨by omega, h⟩)
  · exact .inr (.inl (by omega))
end
end Go.Proofs.Ytedoibgclplnaaa
