/-
The tracks that follow from the followers: each reading on one track, tracks rise; not fewer tracks than readings of one sensor. Plain laws, no program.
-/
import Derived.Test.YtlgeddbgbcineaaKuhnB
namespace Go.Proofs.Ytlgeddbgbcineaa
open Go.RowKit
set_option linter.unusedVariables false
set_option linter.unusedSimpArgs false

/-! the tracks explain all readings -/
theorem chT_mem {lv : Nat → Nat} {n : Nat} {fs : List Int} (h : Rise lv n fs) : ∀ (f i : Nat) (x : Int), i < n → x ∈ chT fs f (i : Int) → ∃ j : Nat, j < n ∧ x = (j : Int) ∧ lv i ≤ lv j ∧ (j = i ∨ (lv i < lv j ∧ ∃ p : Nat, p < n ∧ (p : Int) ∈ chT fs f (i : Int) ∧ iAt fs p = x))
  | 0, i, x, hi, hx => by simp [chT] at hx
  | f + 1, i, x, hi, hx => by
    rw [chT, if_neg (by omega)] at hx
    have e : ((i : Int)).toNat = i := by omega
    rw [e] at hx
    rcases List.mem_cons.1 hx with h1 | h1
    · exact ⟨i, hi, h1, Nat.le_refl _, .inl rfl⟩
    · rcases (h i hi).2 with h2 | ⟨b, hb, h2, h3⟩
      · rw [chT_neg fs f (by omega)] at h1; cases h1
      · rw [h2] at h1
        obtain ⟨j, j1, j2, j3, j4⟩ := chT_mem h f b x hb h1
        refine ⟨j, j1, j2, by omega, .inr ⟨by omega, ?_⟩⟩
        rw [chT, if_neg (by omega), e, h2]
        rcases j4 with h4 | ⟨_, p, p1, p2, p3⟩
        · exact ⟨i, hi, List.mem_cons_self .., by rw [h2, j2, h4]⟩
        · exact ⟨p, p1, List.mem_cons_of_mem _ p2, p3⟩
theorem chT_nodup {lv : Nat → Nat} {n : Nat} {fs : List Int} (h : Rise lv n fs) : ∀ (f i : Nat), i < n → (chT fs f (i : Int)).Nodup
  | 0, i, hi => by simp [chT]
  | f + 1, i, hi => by
    rw [chT, if_neg (by omega)]
    have e : ((i : Int)).toNat = i := by omega
    rw [e]
    rcases (h i hi).2 with h2 | ⟨b, hb, h2, h3⟩
    · rw [chT_neg fs f (by omega)]; simp
    · rw [h2]
      refine List.nodup_cons.2 ⟨?_, chT_nodup h f b hb⟩
      intro hm
      obtain ⟨j, j1, j2, j3, _⟩ := chT_mem h f b _ hb hm
      have : j = i := by omega
      subst this; omega
theorem chn_next {lv : Nat → Nat} {n : Nat} {fs : List Int} (h : Rise lv n fs) (i : Nat) (hi : i < n) (p : Nat) (hp : p < n) (hm : (p : Int) ∈ chn fs (i : Int)) (h0 : 0 ≤ iAt fs p) : iAt fs p ∈ chn fs (i : Int) := by
  have key : ∀ (m i : Nat), i < n → 8 - lv i ≤ m → (p : Int) ∈ chn fs (i : Int) → iAt fs p ∈ chn fs (i : Int) := by
    intro m
    induction m with
    | zero => intro i hi hf _; have := (h i hi).1; omega
    | succ m ih =>
      intro i hi hf hm
      rw [chn_pos h hi] at hm ⊢
      rcases List.mem_cons.1 hm with h1 | h1
      · have : p = i := by omega
        subst this
        refine List.mem_cons_of_mem _ ?_
        rcases (h p hi).2 with h2 | ⟨b, hb, h2, h3⟩
        · omega
        · rw [h2, chn_pos h hb]; exact List.mem_cons_self ..
      · refine List.mem_cons_of_mem _ ?_
        rcases (h i hi).2 with h2 | ⟨b, hb, h2, h3⟩
        · rw [h2, chn_neg fs (by omega)] at h1; cases h1
        · rw [h2] at h1 ⊢; exact ih b hb (by omega) h1
  exact key _ i hi (Nat.le_refl _) hm
/-- every reading lies on a track -/
theorem on_track {lv : Nat → Nat} {n : Nat} {fs : List Int} (h : Rise lv n fs) (hl : fs.length = n) : ∀ (m x : Nat), x < n → lv x < m → ∃ i : Nat, i < n ∧ (i : Int) ∉ fs ∧ (x : Int) ∈ chn fs (i : Int)
  | 0, x, hx, hm => by omega
  | m + 1, x, hx, hm => by
    by_cases hin : (x : Int) ∈ fs
    · obtain ⟨p, hp, hpe⟩ := in_iAt hin
      rcases (h p (by omega)).2 with h1 | ⟨b, hb, h1, h2⟩
      · omega
      · have : b = x := by omega
        subst this
        obtain ⟨i, i1, i2, i3⟩ := on_track h hl m p (by omega) (by omega)
        exact ⟨i, i1, i2, by rw [← hpe]; exact chn_next h i i1 p (by omega) i3 (by omega)⟩
    · exact ⟨x, hx, hin, by rw [chn_pos h hx]; exact List.mem_cons_self ..⟩
/-- on one alone -/
theorem one_track {E : Nat → Nat → Bool} {lv : Nat → Nat} {n : Nat} {fs : List Int} (h : Rise lv n fs) (hok : FsOk E n fs) (hl : fs.length = n) : ∀ (m x i j : Nat), lv x < m → i < n → j < n → (i : Int) ∉ fs → (j : Int) ∉ fs → (x : Int) ∈ chn fs (i : Int) → (x : Int) ∈ chn fs (j : Int) → i = j
  | 0, x, i, j, hm, _, _, _, _, _, _ => by omega
  | m + 1, x, i, j, hm, hi, hj, hni, hnj, h1, h2 => by
    obtain ⟨a, a1, a2, a3, a4⟩ := chT_mem h 9 i _ hi h1
    obtain ⟨b, b1, b2, b3, b4⟩ := chT_mem h 9 j _ hj h2
    have ea : a = x := by omega
    have eb : b = x := by omega
    subst ea
    subst eb
    rcases a4 with a4 | ⟨_, p, p1, p2, p3⟩
    · rcases b4 with b4 | ⟨_, q, q1, q2, q3⟩
      · omega
      · exact absurd (by rw [← a4, ← q3]; exact iAt_in (by omega)) hni
    · rcases b4 with b4 | ⟨_, q, q1, q2, q3⟩
      · exact absurd (by rw [← b4, ← p3]; exact iAt_in (by omega)) hnj
      · have : p = q := hok.inj p q (by omega) (by omega) (p3.trans q3.symm) (by omega)
        subst this
        rcases (h p p1).2 with h9 | ⟨c, hc, h9, h10⟩
        · omega
        · have : c = b := by omega
          subst this
          exact one_track h hok hl m p i j (by omega) hi hj hni hnj p2 q2
theorem mem_trK {fs : List Int} {t : List Int} : ∀ k, t ∈ trK fs k → ∃ i : Nat, i < k ∧ (i : Int) ∉ fs ∧ t = chn fs (i : Int)
  | 0, h => by simp [trK] at h
  | k + 1, h => by
    rw [trK] at h
    by_cases hc : fs.contains (k : Int) = true
    · rw [if_pos hc] at h
      obtain ⟨i, h1, h2⟩ := mem_trK k h
      exact ⟨i, by omega, h2⟩
    · rw [if_neg hc] at h
      rcases List.mem_append.1 h with h1 | h1
      · obtain ⟨i, h1, h2⟩ := mem_trK k h1
        exact ⟨i, by omega, h2⟩
      · exact ⟨k, by omega, by simpa using hc, by simpa using h1⟩
theorem trK_mem {fs : List Int} : ∀ (k i : Nat), i < k → (i : Int) ∉ fs → chn fs (i : Int) ∈ trK fs k
  | 0, i, h, _ => by omega
  | k + 1, i, h, hn => by
    rw [trK]
    by_cases e : i = k
    · subst e
      rw [if_neg (by simpa using hn)]
      exact List.mem_append_right _ (by simp)
    · have := trK_mem k i (by omega) hn
      split
      · exact this
      · exact List.mem_append_left _ this
theorem flat_nodup {E : Nat → Nat → Bool} {lv : Nat → Nat} {n : Nat} {fs : List Int} (h : Rise lv n fs) (hok : FsOk E n fs) (hl : fs.length = n) : ∀ k, k ≤ n → (trK fs k).flatten.Nodup
  | 0, _ => by simp [trK]
  | k + 1, hk => by
    have ih := flat_nodup h hok hl k (by omega)
    rw [trK]
    by_cases hc : fs.contains (k : Int) = true
    · rw [if_pos hc]; exact ih
    · rw [if_neg hc, List.flatten_append, List.flatten_singleton]
      refine List.nodup_append.2 ⟨ih, chT_nodup h 9 k (by omega), ?_⟩
      intro x hx y hy e
      subst e
      obtain ⟨t, ht, hxt⟩ := List.mem_flatten.1 hx
      obtain ⟨i, i1, i2, i3⟩ := mem_trK k ht
      subst i3
      obtain ⟨j, j1, j2, _⟩ := chT_mem h 9 k x (by omega) hy
      subst j2
      have := one_track h hok hl (lv j + 1) j i k (by omega) (by omega) (by omega) i2 (by simpa using hc) hxt hy
      omega
theorem sub_len : ∀ (l m : List Int), l.Nodup → (∀ x ∈ l, x ∈ m) → l.length ≤ m.length
  | [], m, _, _ => by simp
  | a :: l, m, hn, h => by
    obtain ⟨h1, h2⟩ := List.nodup_cons.1 hn
    have ha := h a (by simp)
    have h3 := sub_len l (m.erase a) h2 (fun x hx => (List.mem_erase_of_ne (fun e => by subst e; exact h1 hx)).2 (h x (by simp [hx])))
    have h4 := List.length_erase_of_mem ha
    have h5 : 0 < m.length := List.length_pos_of_mem ha
    simp; omega
theorem rangeI_nodup (n : Nat) : ((List.range n).map (fun j : Nat => (j : Int))).Nodup := by
  show List.Pairwise _ _
  rw [List.pairwise_map]
  refine List.Pairwise.imp ?_ (List.nodup_range (n := n))
  intro a b hab e
  omega
theorem flat_in {lv : Nat → Nat} {n : Nat} {fs : List Int} (h : Rise lv n fs) {x : Int} (hx : x ∈ (trK fs n).flatten) : 0 ≤ x ∧ x < (n : Int) := by
  obtain ⟨t, ht, hxt⟩ := List.mem_flatten.1 hx
  obtain ⟨i, i1, i2, i3⟩ := mem_trK n ht
  subst i3
  obtain ⟨j, j1, j2, _⟩ := chT_mem h 9 i x i1 hxt
  omega
theorem flatK_len {E : Nat → Nat → Bool} {lv : Nat → Nat} {n : Nat} {fs : List Int} (h : Rise lv n fs) (hok : FsOk E n fs) (hl : fs.length = n) : (trK fs n).flatten.length = n := by
  refine Nat.le_antisymm ?_ ?_
  · have := sub_len _ ((List.range n).map (fun j : Nat => (j : Int))) (flat_nodup h hok hl n (Nat.le_refl n)) (fun x hx => by
      have := flat_in h hx
      exact List.mem_map.2 ⟨x.toNat, List.mem_range.2 (by omega), by omega⟩)
    simpa using this
  · have := sub_len ((List.range n).map (fun j : Nat => (j : Int))) (trK fs n).flatten (rangeI_nodup n) (fun x hx => by
      obtain ⟨j, hj, rfl⟩ := List.mem_map.1 hx
      obtain ⟨i, i1, i2, i3⟩ := on_track h hl (lv j + 1) j (List.mem_range.1 hj) (by omega)
      exact List.mem_flatten.2 ⟨_, trK_mem n i i1 i2, i3⟩)
    simpa using this
theorem chT_step {lv : Nat → Nat} {n : Nat} {fs : List Int} (h : Rise lv n fs) : ∀ (f i k : Nat) (_ : i < n) (hk : k + 1 < (chT fs f (i : Int)).length), ∃ p q : Nat, p < n ∧ q < n ∧ (chT fs f (i : Int))[k] = (p : Int) ∧ (chT fs f (i : Int))[k + 1] = (q : Int) ∧ iAt fs p = (q : Int)
  | 0, i, k, hi, hk => by simp [chT] at hk
  | f + 1, i, k, hi, hk => by
    have e : ((i : Int)).toNat = i := by omega
    have hc : chT fs (f + 1) (i : Int) = (i : Int) :: chT fs f (iAt fs i) := by rw [chT, if_neg (by omega), e]
    rcases (h i hi).2 with h2 | ⟨b, hb, h2, h3⟩
    · rw [hc, chT_neg fs f (by omega)] at hk; simp at hk
    · rw [h2] at hc
      have hk' : k < (chT fs f (b : Int)).length := by rw [hc] at hk; simpa using hk
      cases k with
      | zero =>
        refine ⟨i, b, hi, hb, ?_, ?_, h2⟩
        · simp [hc]
        · have h4 : ∀ f, 0 < (chT fs f (b : Int)).length → ∀ (hh : 0 < (chT fs f (b : Int)).length), (chT fs f (b : Int))[0] = (b : Int) := by
            intro f hh hh2
            cases f with
            | zero => simp [chT] at hh
            | succ f =>
              have : chT fs (f + 1) (b : Int) = (b : Int) :: chT fs f (iAt fs ((b : Int)).toNat) := by rw [chT, if_neg (by omega)]
              simp [this]
          have h5 := h4 f (by omega) (by omega)
          simp [hc, h5]
      | succ k =>
        obtain ⟨p, q, p1, q1, p2, q2, pq⟩ := chT_step h f b k hb (by omega)
        exact ⟨p, q, p1, q1, by simp only [hc, List.getElem_cons_succ]; exact p2, by simp only [hc, List.getElem_cons_succ]; exact q2, pq⟩
/-! not fewer tracks than readings of one sensor -/
theorem level_le (E : Nat → Nat → Bool) (lv : Nat → Nat) (n v : Nat) (he : ∀ i b, i < n → b < n → E i b = true → lv b = lv i + 1) : (List.range n).countP (fun i => decide (lv i = v)) + mostK E n ≤ n := by
  obtain ⟨M, h1, h2⟩ := most_has E n
  rw [← h2, posN_range h1.len]
  -- a place with one in front and a sensor not above v: the one in front lies below v
  have hsplit : (List.range n).countP (fun b => decide (0 ≤ iAt M b)) ≤ (List.range n).countP (fun b => decide (v < lv b)) + ((List.range n).filter (fun b => decide (0 ≤ iAt M b) && decide (lv b ≤ v))).length := by
    rw [← List.countP_eq_length_filter]
    have : ∀ l : List Nat, l.countP (fun b => decide (0 ≤ iAt M b)) ≤ l.countP (fun b => decide (v < lv b)) + l.countP (fun b => decide (0 ≤ iAt M b) && decide (lv b ≤ v)) := by
      intro l
      induction l with
      | nil => simp
      | cons a l ih =>
        rw [List.countP_cons, List.countP_cons, List.countP_cons]
        by_cases h3 : 0 ≤ iAt M a <;> by_cases h4 : lv a ≤ v
        · have h5 : ¬ v < lv a := by omega
          simp [h3, h4, h5]; omega
        · have h5 : v < lv a := by omega
          simp [h3, h4, h5]; omega
        · have h5 : ¬ v < lv a := by omega
          simp [h3, h5]; omega
        · have h5 : v < lv a := by omega
          simp [h3, h5]; omega
    exact this _
  have hlow : ((List.range n).filter (fun b => decide (0 ≤ iAt M b) && decide (lv b ≤ v))).length ≤ (List.range n).countP (fun i => decide (lv i < v)) := by
    have hp : ((List.range n).filter (fun b => decide (0 ≤ iAt M b) && decide (lv b ≤ v))).Pairwise (fun a b => a ≠ b) := List.Pairwise.filter _ (List.nodup_range (n := n))
    have h3 := sub_len (((List.range n).filter (fun b => decide (0 ≤ iAt M b) && decide (lv b ≤ v))).map (iAt M)) (((List.range n).filter (fun i => decide (lv i < v))).map (fun j : Nat => (j : Int))) (by
      show List.Pairwise _ _
      rw [List.pairwise_map]
      refine List.Pairwise.imp_of_mem ?_ hp
      intro a b ha hb hab e
      rw [List.mem_filter, List.mem_range] at ha hb
      simp only [Bool.and_eq_true, decide_eq_true_eq] at ha hb
      exact hab (h1.inj a b ha.1 hb.1 e ha.2.1)) (by
      intro x hx
      obtain ⟨b, hb, rfl⟩ := List.mem_map.1 hx
      rw [List.mem_filter, List.mem_range] at hb
      simp only [Bool.and_eq_true, decide_eq_true_eq] at hb
      rcases h1.ed b hb.1 with h4 | ⟨r, h4, h5, h6⟩
      · omega
      · have := he r b h4 hb.1 h6
        exact List.mem_map.2 ⟨r, List.mem_filter.2 ⟨List.mem_range.2 h4, by simp; omega⟩, h5.symm⟩)
    rw [List.countP_eq_length_filter]
    simpa using h3
  have htot : ∀ l : List Nat, l.countP (fun i => decide (lv i = v)) + l.countP (fun b => decide (v < lv b)) + l.countP (fun i => decide (lv i < v)) = l.length := by
    intro l
    induction l with
    | nil => simp
    | cons a l ih =>
      rw [List.countP_cons, List.countP_cons, List.countP_cons]
      rcases Nat.lt_trichotomy (lv a) v with h3 | h3 | h3
      · have h4 : ¬ lv a = v := by omega
        have h5 : ¬ v < lv a := by omega
        simp [h3, h4, h5]; omega
      · have h4 : ¬ lv a < v := by omega
        have h5 : ¬ v < lv a := by omega
        simp [h3, h4, h5]; omega
      · have h4 : ¬ lv a = v := by omega
        have h5 : ¬ lv a < v := by omega
        simp [h3, h4, h5]; omega
  have := htot (List.range n)
  simp at this
  omega
end Go.Proofs.Ytlgeddbgbcineaa
