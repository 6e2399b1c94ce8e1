/-
Circles: what follows from one index on, and whether it comes back. Plain laws, no program.
-/
import Derived.Test.YtedoibgclplnaaaRoomF
namespace Go.Proofs.Ytedoibgclplnaaa
set_option linter.unusedVariables false

theorem nodup_lt_len : ∀ (n : Nat) (l : List Nat), l.Nodup → (∀ x ∈ l, x < n) → l.length ≤ n
  | 0, l, _, h => by
    cases l with
    | nil => simp
    | cons a l => exact absurd (h a (by simp)) (by omega)
  | n + 1, l, hn, h => by
    by_cases hm : n ∈ l
    · have h1 := nodup_lt_len n (l.erase n) (hn.erase n) (fun x hx => by
        have h2 := h x (List.mem_of_mem_erase hx)
        have h3 : x ≠ n := fun e => by subst e; exact absurd hx (List.Nodup.not_mem_erase hn)
        omega)
      have := List.length_erase_of_mem hm
      omega
    · have h1 := nodup_lt_len n l hn (fun x hx => by
        have h2 := h x hx
        have h3 : x ≠ n := fun e => by subst e; exact hm hx
        omega)
      omega

def orb (nx : Nat → Int) (f : Nat) : Nat → Int
  | 0 => f
  | t + 1 => if orb nx f t < 0 then -1 else nx (orb nx f t).toNat
def Alive (nx : Nat → Int) (f T : Nat) : Prop := ∀ t, 1 ≤ t → t < T → 0 ≤ orb nx f t ∧ orb nx f t ≠ f
def orbL (nx : Nat → Int) (f T : Nat) : List Int := (List.range T).map (orb nx f)
def Circ (nx : Nat → Int) (n f : Nat) (out : List Int) : Prop := ∃ T, 1 ≤ T ∧ T ≤ n ∧ Alive nx f T ∧ orb nx f T = f ∧ out = orbL nx f T
section
variable {nx : Nat → Int} {n f : Nat}
theorem orbL_succ (t : Nat) : orbL nx f (t + 1) = orbL nx f t ++ [orb nx f t] := by simp [orbL, List.range_succ]
theorem orbL_len (t : Nat) : (orbL nx f t).length = t := by simp [orbL]
theorem orb_succ {t : Nat} (h : 0 ≤ orb nx f t) : orb nx f (t + 1) = nx (orb nx f t).toNat := by
  show (if orb nx f t < 0 then -1 else nx (orb nx f t).toNat) = _
  rw [if_neg (by omega)]
theorem alive_succ {t : Nat} (h : Alive nx f t) (h0 : 0 ≤ orb nx f t) (h1 : orb nx f t ≠ f) : Alive nx f (t + 1) := fun s hs hst => by
  by_cases e : s = t
  · subst e; exact ⟨h0, h1⟩
  · exact h s hs (by omega)
theorem alive_one : Alive nx f 1 := fun t h1 h2 => by omega
theorem circ_unique {o o' : List Int} (h : Circ nx n f o) (h' : Circ nx n f o') : o = o' := by
  obtain ⟨T, h1, h2, h3, h4, rfl⟩ := h
  obtain ⟨T', k1, k2, k3, k4, rfl⟩ := h'
  have : T = T' := by
    rcases Nat.lt_trichotomy T T' with h | h | h
    · exact absurd h4 (k3 T h1 h).2
    · exact h
    · exact absurd k4 (h3 T' k1 h).2
  rw [this]
theorem no_circ_neg {t : Nat} (ht : 1 ≤ t) (ha : Alive nx f t) (h : orb nx f t < 0) (o : List Int) : ¬ Circ nx n f o := by
  rintro ⟨T, h1, h2, h3, h4, -⟩
  rcases Nat.lt_trichotomy T t with h5 | h5 | h5
  · exact (ha T h1 h5).2 h4
  · subst h5; omega
  · have := (h3 t ht h5).1; omega
theorem no_circ_all (ha : Alive nx f (n + 1)) (o : List Int) : ¬ Circ nx n f o := by
  rintro ⟨T, h1, h2, h3, h4, -⟩
  exact (ha T h1 (by omega)).2 h4
theorem no_circ_rep {t : Nat} (ht : 1 ≤ t) (ha : Alive nx f t) (h0 : 0 ≤ orb nx f t) (h1 : orb nx f t ≠ f) (hm : orb nx f t ∈ orbL nx f t) (o : List Int) : ¬ Circ nx n f o := by
  obtain ⟨i, hi, hii⟩ := List.mem_map.1 hm
  have hi' : i < t := by simpa using hi
  have hi1 : 1 ≤ i := by
    rcases Nat.eq_zero_or_pos i with e | e
    · subst e; exact absurd hii.symm h1
    · exact e
  have hper : ∀ s, orb nx f (t + s) = orb nx f (i + s) := by
    intro s
    induction s with
    | zero => exact hii.symm
    | succ s ih =>
      show (if orb nx f (t + s) < 0 then -1 else nx (orb nx f (t + s)).toNat) = (if orb nx f (i + s) < 0 then -1 else nx (orb nx f (i + s)).toNat)
      rw [ih]
  have hall : ∀ T, 1 ≤ T → 0 ≤ orb nx f T ∧ orb nx f T ≠ f := by
    intro T
    induction T using Nat.strongRecOn with
    | ind T ih =>
      intro hT
      by_cases h5 : T < t
      · exact ha T hT h5
      · obtain ⟨s, rfl⟩ : ∃ s, T = t + s := ⟨T - t, by omega⟩
        rw [hper]
        exact ih (i + s) (by omega) (by omega)
  rintro ⟨T, h2, -, -, h4, -⟩
  exact (hall T h2).2 h4
theorem circ_at {t : Nat} (ht : 1 ≤ t) (htn : t ≤ n) (ha : Alive nx f t) (h : orb nx f t = f) : Circ nx n f (orbL nx f t) := ⟨t, ht, htn, ha, h, rfl⟩
/-- as long as nothing is met again, it is short -/
theorem orb_short (hnx : ∀ k, k < n → nx k < n) (hf : f < n) {t : Nat} (ha : Alive nx f t) (hd : (orbL nx f t).Nodup) : t ≤ n := by
  have hb : ∀ s, s < t → 0 ≤ orb nx f s ∧ orb nx f s < n := by
    intro s
    induction s with
    | zero => intro _; show 0 ≤ (f : Int) ∧ (f : Int) < n; omega
    | succ s ih =>
      intro hs
      obtain ⟨h1, h2⟩ := ih (by omega)
      refine ⟨(ha (s + 1) (by omega) hs).1, ?_⟩
      rw [orb_succ h1]
      exact hnx _ (by omega)
  have h := nodup_lt_len n ((orbL nx f t).map Int.toNat) (by
    show List.Pairwise _ _
    rw [List.pairwise_map]
    refine List.Pairwise.imp_of_mem ?_ hd
    intro a b ha' hb' hne
    obtain ⟨i, hi, rfl⟩ := List.mem_map.1 ha'
    obtain ⟨j, hj, rfl⟩ := List.mem_map.1 hb'
    have := hb i (by simpa using hi); have := hb j (by simpa using hj)
    omega) (by
    intro x hx
    obtain ⟨y, hy, rfl⟩ := List.mem_map.1 hx
    obtain ⟨i, hi, rfl⟩ := List.mem_map.1 hy
    have := hb i (by simpa using hi)
    omega)
  simpa [orbL] using h
end
end Go.Proofs.Ytedoibgclplnaaa
