/-
States that carriers reach; deadlocks; with one carrier inside at most there is none. Plain laws.
-/
import Derived.Test.YtegabdhmfemgkaaBfs
namespace Go.Proofs.Ytegabdhmfemgkaa
open Go.RowKit
set_option linter.unusedVariables false

/-! moves of carriers, and what is reached by them -/
def lensW (ways : List (List Int)) : List Nat := ways.map List.length
theorem lensW_len (ways : List (List Int)) : (lensW ways).length = ways.length := by simp [lensW]
section
variable {halls : List Int} {ways : List (List Int)} {most : Int} {s : List Int}
theorem mem_moves {c : Int} : c ∈ movesL halls ways most s ↔ ∃ k : Nat, k < ways.length ∧ c = (k : Int) ∧ mvB halls ways most s k = true := by
  unfold movesL movesK
  simp only [List.mem_map, List.mem_filter, List.mem_range]
  constructor
  · rintro ⟨k, ⟨h1, h2⟩, rfl⟩; exact ⟨k, h1, rfl, h2⟩
  · rintro ⟨k, h1, rfl, h2⟩; exact ⟨k, ⟨h1, h2⟩, rfl⟩
theorem mvB_le {k : Nat} (hk : k < ways.length) (h : mvB halls ways most s k = true) : plc s k ≤ (ways[k].length : Int) := by
  rw [mvB_at hk] at h
  by_cases h1 : (ways[k].length : Int) < plc s k
  · rw [if_pos h1] at h; cases h
  · omega
theorem mvOk_moves : MvOk (lensW ways) (movesL halls ways most) := by
  intro s _ c hc
  obtain ⟨k, hk, rfl, hm⟩ := mem_moves.1 hc
  refine ⟨k, by rw [lensW_len]; exact hk, rfl, ?_⟩
  have := mvB_le hk hm
  simpa [lensW] using this
theorem lens5 (ht : travOk halls ways = true) : ∀ l ∈ lensW ways, l ≤ 5 := by
  obtain ⟨_, _, _, hway⟩ := travOk_at ht
  intro l hl
  obtain ⟨way, hw, rfl⟩ := List.mem_map.1 hl
  exact (wayOk_at (hway _ hw)).1.2
theorem lens4 (ht : travOk halls ways = true) : (lensW ways).length ≤ 4 := by
  obtain ⟨_, _, h4, _⟩ := travOk_at ht
  rw [lensW_len]; exact h4
theorem Good.at_ (h : Good (lensW ways) s) : s.length = ways.length ∧ ∀ k, (hk : k < ways.length) → 0 ≤ plc s k ∧ plc s k ≤ (ways[k].length : Int) + 1 := by
  refine ⟨by rw [h.1, lensW_len], fun k hk => ?_⟩
  have := h.2 k (by rw [lensW_len]; exact hk)
  simpa [lensW] using this
end
/-- all carriers are done -/
def doneS (ways : List (List Int)) (s : List Int) : Bool := (List.range ways.length).all fun k => decide (((ways.getD k []).length : Int) < plc s k)
def doneN (ways : List (List Int)) (s : List Int) (n : Nat) : Bool := (List.range n).all fun k => decide (((ways.getD k []).length : Int) < plc s k)
theorem doneN_succ {ways : List (List Int)} {s : List Int} {k : Nat} (hk : k < ways.length) : doneN ways s (k + 1) = (doneN ways s k && decide ((ways[k].length : Int) < plc s k)) := by
  unfold doneN
  rw [List.range_succ, List.all_append]
  simp [List.getD_eq_getElem?_getD, hk]
theorem doneN_bad {ways : List (List Int)} {s : List Int} {k : Nat} (hk : k < ways.length) (h : decide ((ways[k].length : Int) < plc s k) = false) : doneS ways s = false := by
  unfold doneS
  rw [List.all_eq_false]
  exact ⟨k, List.mem_range.2 hk, by simpa [List.getD_eq_getElem?_getD, hk] using h⟩
theorem doneS_iff {ways : List (List Int)} {s : List Int} : doneS ways s = true ↔ ∀ k, (h : k < ways.length) → (ways[k].length : Int) < plc s k := by
  unfold doneS
  simp only [List.all_eq_true, List.mem_range, decide_eq_true_eq]
  constructor
  · intro h k hk; have := h k hk; simpa [List.getD_eq_getElem?_getD, hk] using this
  · intro h k hk; have := h k hk; simpa [List.getD_eq_getElem?_getD, hk] using this
def isDead (halls : List Int) (ways : List (List Int)) (most : Int) (s : List Int) : Bool := !doneS ways s && decide ((movesL halls ways most s).length = 0)
def reachT (halls : List Int) (ways : List (List Int)) (most : Int) : Rch := bfsAll (movesL halls ways most) (zeroS ways.length)
def firstDead (halls : List Int) (ways : List (List Int)) (most : Int) : Option (List Int × List Int) := (reachT halls ways most).find? fun q => isDead halls ways most q.1
theorem moves_fun {halls : List Int} {ways : List (List Int)} (h4 : ways.length ≤ 4) : movesL halls ways (ways.length : Int) = movesL halls ways 4 := by
  funext s; exact movesL_most h4
theorem reachT_most {halls : List Int} {ways : List (List Int)} (h4 : ways.length ≤ 4) : reachT halls ways (ways.length : Int) = reachT halls ways 4 := by
  unfold reachT; rw [moves_fun h4]
theorem firstDead_most {halls : List Int} {ways : List (List Int)} (h4 : ways.length ≤ 4) : firstDead halls ways (ways.length : Int) = firstDead halls ways 4 := by
  unfold firstDead isDead; rw [reachT_most h4, moves_fun h4]

/-! with one carrier inside at most there is no deadlock -/
def insI (h : Int) : Int := if 0 ≤ h then 1 else 0
theorem hallK_set (ways : List (List Int)) (s : List Int) (c : Nat) (hc : c < s.length) (x : Int) (n : Nat) : hallK ways (s.set c x) n = if n = c then hallP (ways.getD c []) x else hallK ways s n := by
  unfold hallK
  rw [stV_set s c hc]
  by_cases h : n = c
  · subst h; rw [if_pos rfl, if_pos rfl]
  · rw [if_neg h, if_neg h]
theorem allF_set (ways : List (List Int)) (s : List Int) (c : Nat) (hc : c < s.length) (x : Int) : ∀ n, allF ways (s.set c x) n = allF ways s n + (if c < n then insI (hallP (ways.getD c []) x) - insI (hallK ways s c) else 0)
  | 0 => by simp [allF]
  | n + 1 => by
    show allF ways (s.set c x) n + insI (hallK ways (s.set c x) n) = allF ways s n + insI (hallK ways s n) + _
    rw [allF_set ways s c hc x n, hallK_set ways s c hc]
    by_cases h : n = c
    · subst h
      rw [if_neg (by omega), if_pos rfl, if_pos (by omega)]; omega
    · rw [if_neg h]
      by_cases h2 : c < n
      · rw [if_pos h2, if_pos (by omega)]; omega
      · rw [if_neg h2, if_neg (by omega)]; omega
theorem allF_one {ways : List (List Int)} {s : List Int} {k : Nat} (h : 0 ≤ hallK ways s k) : ∀ n, k < n → 1 ≤ allF ways s n
  | 0, hk => by omega
  | n + 1, hk => by
    show 1 ≤ allF ways s n + insI (hallK ways s n)
    have hi : 0 ≤ insI (hallK ways s n) := by unfold insI; split <;> omega
    have hb := (allF_bd ways s n).1
    by_cases e : k = n
    · subst e; have : insI (hallK ways s k) = 1 := by unfold insI; rw [if_pos h]
      omega
    · have := allF_one h n (by omega); omega
theorem allF_two {ways : List (List Int)} {s : List Int} {j k : Nat} (h : 0 ≤ hallK ways s k) (h' : 0 ≤ hallK ways s j) (hj : j < k) : ∀ n, k < n → 2 ≤ allF ways s n
  | 0, hk => by omega
  | n + 1, hk => by
    show 2 ≤ allF ways s n + insI (hallK ways s n)
    have hi : 0 ≤ insI (hallK ways s n) := by unfold insI; split <;> omega
    by_cases e : k = n
    · subst e; have : insI (hallK ways s k) = 1 := by unfold insI; rw [if_pos h]
      have := allF_one h' k hj
      omega
    · have := allF_two h h' hj n (by omega); omega
theorem allF_none {ways : List (List Int)} {s : List Int} : ∀ n, (∀ k, k < n → hallK ways s k < 0) → allF ways s n = 0
  | 0, _ => rfl
  | n + 1, h => by
    show allF ways s n + insI (hallK ways s n) = 0
    have := h n (by omega)
    rw [allF_none n (fun k hk => h k (by omega))]
    unfold insI; rw [if_neg (by omega)]; rfl
theorem cntF_none {ways : List (List Int)} {s : List Int} {h : Nat} : ∀ n, (∀ k, k < n → hallK ways s k ≠ (h : Int)) → cntF ways s n h = 0
  | 0, _ => rfl
  | n + 1, hn => by
    show cntF ways s n h + _ = 0
    rw [cntF_none n (fun k hk => hn k (by omega)), if_neg (hn n (by omega))]; rfl
theorem inside1 {halls : List Int} {ways : List (List Int)} (ht : travOk halls ways = true) {s : List Int} (hg : Good (lensW ways) s) (h1 : allF ways s ways.length ≤ 1) {c : Int} (hc : c ∈ movesL halls ways 1 s) : allF ways (nxS s c) ways.length ≤ 1 := by
  obtain ⟨k, hk, rfl, hm⟩ := mem_moves.1 hc
  obtain ⟨hl, hp⟩ := hg.at_
  obtain ⟨_, _, _, hway⟩ := travOk_at ht
  have hpk := hp k hk
  show allF ways (s.set k (plc s k + 1)) ways.length ≤ 1
  rw [allF_set ways s k (by omega), if_pos hk]
  have i1 : ∀ h : Int, 0 ≤ insI h ∧ insI h ≤ 1 := fun h => by unfold insI; split <;> omega
  have a1 := i1 (hallP (ways.getD k []) (plc s k + 1)); have a2 := i1 (hallK ways s k)
  by_cases h0 : plc s k = 0
  · rw [mvB_at hk] at hm
    have hb := (allF_bd ways s ways.length).1
    by_cases h2 : (1 : Int) ≤ allF ways s ways.length
    · rw [if_neg (by omega), if_pos ⟨h0, h2⟩] at hm; cases hm
    · omega
  · have hle := mvB_le hk hm
    have : insI (hallK ways s k) = 1 := by
      rw [← hallK_at s hk]
      obtain ⟨q, hq⟩ := Int.eq_ofNat_of_zero_le (show (0 : Int) ≤ plc s k - 1 by omega)
      have e : plc s k = (q : Int) + 1 := by omega
      have hql : q < ways[k].length := by omega
      rw [e, hallP_pos hql]
      have := (wayOk_at (hway _ (List.getElem_mem hk))).2 _ (List.getElem_mem hql)
      unfold insI; rw [if_pos (by omega)]
    omega
theorem move1 {halls : List Int} {ways : List (List Int)} (ht : travOk halls ways = true) {s : List Int} (hg : Good (lensW ways) s) (h1 : allF ways s ways.length ≤ 1) (hd : doneS ways s = false) : movesL halls ways 1 s ≠ [] := by
  obtain ⟨hl, hp⟩ := hg.at_
  obtain ⟨_, hbd, h4, hway⟩ := travOk_at ht
  have go : ∀ k, k < ways.length → mvB halls ways 1 s k = true → movesL halls ways 1 s ≠ [] := fun k hk hm he => by
    have := mem_moves.2 ⟨k, hk, rfl, hm⟩
    rw [he] at this; cases this
  by_cases hin : ∃ k, k < ways.length ∧ 0 ≤ hallK ways s k
  · obtain ⟨k, hk, hK⟩ := hin
    refine go k hk ?_
    have hothers : ∀ j, j < ways.length → j ≠ k → hallK ways s j < 0 := fun j hj hne => by
      rcases Int.lt_or_le (hallK ways s j) 0 with h | h
      · exact h
      · rcases Nat.lt_or_ge j k with h2 | h2
        · have := allF_two hK h h2 ways.length hk; omega
        · have := allF_two h hK (by omega) ways.length hj; omega
    rw [← hallK_at s hk] at hK
    have hpk := hp k hk
    have hwk := hway _ (List.getElem_mem hk)
    have hr : 1 ≤ plc s k ∧ plc s k ≤ (ways[k].length : Int) := by
      rcases Int.lt_or_le (plc s k) 1 with h | h
      · rw [hallP_neg (.inl h)] at hK; omega
      · rcases Int.lt_or_le (ways[k].length : Int) (plc s k) with h2 | h2
        · rw [hallP_neg (.inr h2)] at hK; omega
        · exact ⟨h, h2⟩
    rw [mvB_at hk, if_neg (by omega), if_neg (by omega)]
    obtain ⟨q, hq⟩ := Int.eq_ofNat_of_zero_le (show (0 : Int) ≤ plc s k - 1 by omega)
    have e : plc s k = (q : Int) + 1 := by omega
    have hql : q < ways[k].length := by omega
    by_cases hlast : q + 1 < ways[k].length
    · have e2 : plc s k + 1 = ((q + 1 : Nat) : Int) + 1 := by omega
      have hin := (wayOk_at hwk).2 _ (List.getElem_mem hlast)
      rw [e2, hallP_pos hlast, if_neg (by omega)]
      have hadj : ways[k][q] ≠ ways[k][q + 1] := by
        have : adjB ways[k] = false := by
          simp only [wayOk, Bool.and_eq_true, Bool.not_eq_true'] at hwk; exact hwk.2
        exact adjB_false.1 this (q + 1) hlast (by omega)
      rw [cntF_none ways.length (fun j hj => ?_)]
      · have hh : (ways[k][q + 1]).toNat < halls.length := by omega
        have := hbd _ (List.getElem_mem hh)
        simp [List.getD_eq_getElem?_getD, hh]; omega
      · by_cases ej : j = k
        · subst ej
          rw [← hallK_at s hk, e, hallP_pos hql]; omega
        · have := hothers j hj ej; omega
    · rw [hallP_neg (.inr (by omega)), if_pos (by omega)]
  · have hn : ∀ k, k < ways.length → hallK ways s k < 0 := fun k hk => by
      rcases Int.lt_or_le (hallK ways s k) 0 with h | h
      · exact h
      · exact absurd ⟨k, hk, h⟩ hin
    have hnd : ∃ k, ∃ hk : k < ways.length, plc s k ≤ (ways[k].length : Int) := by
      rcases Classical.em (∃ k, ∃ hk : k < ways.length, plc s k ≤ (ways[k].length : Int)) with h | h
      · exact h
      · exfalso
        have : doneS ways s = true := doneS_iff.2 fun k hk => by
          rcases Int.lt_or_le (ways[k].length : Int) (plc s k) with h2 | h2
          · exact h2
          · exact absurd ⟨k, hk, h2⟩ h
        rw [this] at hd; cases hd
    obtain ⟨k, hk, hle⟩ := hnd
    refine go k hk ?_
    have hpk := hp k hk
    have hwk := hway _ (List.getElem_mem hk)
    have hw1 := (wayOk_at hwk).1
    have h0 : plc s k = 0 := by
      rcases Int.lt_or_le (plc s k) 1 with h | h
      · omega
      · obtain ⟨q, hq⟩ := Int.eq_ofNat_of_zero_le (show (0 : Int) ≤ plc s k - 1 by omega)
        have e : plc s k = (q : Int) + 1 := by omega
        have hql : q < ways[k].length := by omega
        have := hn k hk
        rw [← hallK_at s hk, e, hallP_pos hql] at this
        have := (wayOk_at hwk).2 _ (List.getElem_mem hql)
        omega
    have hz := allF_none ways.length hn
    have hin := (wayOk_at hwk).2 _ (List.getElem_mem (show 0 < ways[k].length by omega))
    rw [mvB_at hk, if_neg (by omega), if_neg (by omega), h0, show (0 : Int) + 1 = ((0 : Nat) : Int) + 1 from rfl, hallP_pos (show 0 < ways[k].length by omega), if_neg (by omega), cntF_none ways.length (fun j hj => by have := hn j hj; omega)]
    have hh : (ways[k][0]).toNat < halls.length := by omega
    have := hbd _ (List.getElem_mem hh)
    simp [List.getD_eq_getElem?_getD, hh]; omega
/-! a fact of the first state that moves keep holds of all that is reached -/
theorem stepsN_all {p : List Int → Prop} {s path : List Int} : ∀ (cs : List Int) {acc : Rch}, (∀ q ∈ acc, p q.1) → (∀ c ∈ cs, p (nxS s c)) → ∀ q ∈ stepsN s path acc cs, p q.1
  | [], _, h, _ => h
  | c :: cs, acc, h, hc => by
    refine stepsN_all cs (acc := stepN s path acc c) ?_ (fun d hd => hc d (by simp [hd]))
    unfold stepN
    split
    · exact h
    · intro q hq
      rcases List.mem_append.1 hq with hq | hq
      · exact h q hq
      · obtain rfl := List.mem_singleton.1 hq
        exact hc c (by simp)
theorem bfs_all {p : List Int → Prop} {mv : List Int → List Int} {z : List Int} (hz : p z) (hm : ∀ s, p s → ∀ c ∈ mv s, p (nxS s c)) : ∀ i, ∀ q ∈ bfs mv z i, p q.1
  | 0 => by intro q hq; obtain rfl := List.mem_singleton.1 hq; exact hz
  | i + 1 => by
    show ∀ q ∈ roundN mv (bfs mv z i) i, p q.1
    unfold roundN
    split
    · rename_i hi
      have ih := bfs_all hz hm i
      exact stepsN_all _ ih (hm _ (ih _ (List.getElem_mem hi)))
    · exact bfs_all hz hm i
theorem dead1 {halls : List Int} {ways : List (List Int)} (ht : travOk halls ways = true) : firstDead halls ways 1 = none := by
  unfold firstDead reachT bfsAll
  rw [List.find?_eq_none]
  intro q hq
  have h := bfs_all (p := fun s => Good (lensW ways) s ∧ allF ways s ways.length ≤ 1) (mv := movesL halls ways 1) (z := zeroS ways.length)
    (by
      refine ⟨by have := good_zero (lensW ways); rwa [lensW_len] at this, ?_⟩
      rw [allF_none]; · omega
      intro k hk
      rw [← hallK_at _ hk]
      have : plc (zeroS ways.length) k = 0 := by simp [plc, zeroS, List.getD_eq_getElem?_getD, hk]
      rw [this, hallP_neg (.inl (by omega))]; omega)
    (fun s hs c hc => ⟨good_nx mvOk_moves hs.1 hc, inside1 ht hs.1 hs.2 hc⟩) _ q hq
  unfold isDead
  cases hd : doneS ways q.1 with
  | true => simp
  | false =>
    have := move1 ht h.1 h.2 hd
    simpa using this
def deadB (halls : List Int) (ways : List (List Int)) (n : Nat) : Bool := (firstDead halls ways (n : Int)).isSome
/-- the greatest number up to n with which no deadlock is reached -/
def mostF (halls : List Int) (ways : List (List Int)) : Nat → Nat
  | 0 => 0
  | n + 1 => if deadB halls ways (n + 1) = true then mostF halls ways n else n + 1
theorem mostF_le (halls : List Int) (ways : List (List Int)) : ∀ n, mostF halls ways n ≤ n
  | 0 => Nat.le_refl _
  | n + 1 => by unfold mostF; split; have := mostF_le halls ways n; omega; exact Nat.le_refl _
theorem mostF_one {halls : List Int} {ways : List (List Int)} (ht : travOk halls ways = true) : mostF halls ways 1 = 1 := by
  unfold mostF deadB
  rw [show ((0 + 1 : Nat) : Int) = 1 from rfl, dead1 ht]; rfl
end Go.Proofs.Ytegabdhmfemgkaa
