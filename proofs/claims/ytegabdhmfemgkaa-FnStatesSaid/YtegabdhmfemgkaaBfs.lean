/-
All states that moves reach, in the order in which they are met, with the moves to them; numbers of states. Plain laws; no program.
-/
import Derived.Test.YtegabdhmfemgkaaPolK
namespace Go.Proofs.Ytegabdhmfemgkaa
open Go.RowKit
set_option linter.unusedVariables false

/-- the state after carrier c has gone on -/
def nxS (s : List Int) (c : Int) : List Int := s.set c.toNat (plc s c.toNat + 1)
abbrev Rch := List (List Int × List Int)
def hasS (acc : Rch) (s : List Int) : Bool := acc.any fun q => decide (q.1 = s)
def stepN (s path : List Int) (acc : Rch) (c : Int) : Rch := if hasS acc (nxS s c) = true then acc else acc ++ [(nxS s c, path ++ [c])]
def stepsN (s path : List Int) (acc : Rch) (cs : List Int) : Rch := cs.foldl (stepN s path) acc
def roundN (mv : List Int → List Int) (acc : Rch) (i : Nat) : Rch := if h : i < acc.length then stepsN acc[i].1 acc[i].2 acc (mv acc[i].1) else acc
def bfs (mv : List Int → List Int) (z : List Int) : Nat → Rch
  | 0 => [(z, [])]
  | i + 1 => roundN mv (bfs mv z i) i
theorem stepsN_snoc (s path : List Int) (acc : Rch) (cs : List Int) (k : Nat) (hk : k < cs.length) : stepsN s path acc (cs.take (k + 1)) = stepN s path (stepsN s path acc (cs.take k)) cs[k] := by
  unfold stepsN
  rw [List.take_succ_eq_append_getElem hk, List.foldl_append]
  rfl
theorem stepN_pre (s path : List Int) (acc : Rch) (c : Int) : acc <+: stepN s path acc c := by
  unfold stepN; split
  · exact List.prefix_refl _
  · exact List.prefix_append _ _
theorem stepsN_pre (s path : List Int) : ∀ (cs : List Int) (acc : Rch), acc <+: stepsN s path acc cs
  | [], acc => List.prefix_refl _
  | c :: cs, acc => (stepN_pre s path acc c).trans (stepsN_pre s path cs _)
theorem roundN_pre (mv : List Int → List Int) (acc : Rch) (i : Nat) : acc <+: roundN mv acc i := by
  unfold roundN; split
  · exact stepsN_pre _ _ _ _
  · exact List.prefix_refl _
theorem bfs_pre (mv : List Int → List Int) (z : List Int) (i : Nat) : ∀ d, bfs mv z i <+: bfs mv z (i + d)
  | 0 => List.prefix_refl _
  | d + 1 => (bfs_pre mv z i d).trans (roundN_pre mv _ _)
theorem bfs_stop (mv : List Int → List Int) (z : List Int) {i : Nat} (h : (bfs mv z i).length = i) : ∀ d, bfs mv z (i + d) = bfs mv z i
  | 0 => rfl
  | d + 1 => by
    show roundN mv (bfs mv z (i + d)) (i + d) = _
    rw [bfs_stop mv z h d]
    unfold roundN
    rw [dif_neg (by omega)]
/-- a good state: one place for each way, each from 0 to one behind its way's end -/
def Good (ls : List Nat) (s : List Int) : Prop := s.length = ls.length ∧ ∀ k, (h : k < ls.length) → 0 ≤ plc s k ∧ plc s k ≤ (ls[k] : Int) + 1
/-- moves are those of carriers that are not yet done -/
def MvOk (ls : List Nat) (mv : List Int → List Int) : Prop := ∀ s, Good ls s → ∀ c ∈ mv s, ∃ k : Nat, ∃ h : k < ls.length, c = (k : Int) ∧ plc s k ≤ (ls[k] : Int)
theorem plc_set (pl : List Int) (c : Nat) (hc : c < pl.length) (x : Int) (k : Nat) : plc (pl.set c x) k = if k = c then x else plc pl k := stV_set pl c hc x k
theorem good_nx {ls : List Nat} {mv : List Int → List Int} (hm : MvOk ls mv) {s : List Int} (hs : Good ls s) {c : Int} (hc : c ∈ mv s) : Good ls (nxS s c) := by
  obtain ⟨k, h, rfl, hle⟩ := hm s hs c hc
  refine ⟨by simp [nxS, hs.1], fun j hj => ?_⟩
  have h0 := hs.2 j hj
  rw [show nxS s (k : Int) = s.set k (plc s k + 1) from rfl, plc_set _ _ (by rw [hs.1]; exact h)]
  by_cases e : j = k
  · subst e; rw [if_pos rfl]; omega
  · rw [if_neg e]; exact h0
/-- what holds of all that is reached -/
structure AccOk (ls : List Nat) (acc : Rch) : Prop where
  good : ∀ q ∈ acc, Good ls q.1
  nodup : (acc.map Prod.fst).Nodup
theorem hasS_iff (acc : Rch) (s : List Int) : hasS acc s = true ↔ s ∈ acc.map Prod.fst := by
  simp [hasS, List.any_eq_true]
theorem AccOk.step {ls : List Nat} {mv : List Int → List Int} (hm : MvOk ls mv) {acc : Rch} (h : AccOk ls acc) {s path : List Int} (hs : Good ls s) {c : Int} (hc : c ∈ mv s) : AccOk ls (stepN s path acc c) := by
  unfold stepN
  split
  · exact h
  · rename_i hn
    refine ⟨?_, ?_⟩
    · intro q hq
      rcases List.mem_append.1 hq with hq | hq
      · exact h.good q hq
      · obtain rfl := List.mem_singleton.1 hq
        exact good_nx hm hs hc
    · rw [List.map_append, List.nodup_append]
      refine ⟨h.nodup, by simp, ?_⟩
      intro a ha b hb
      simp at hb
      subst hb
      rintro rfl
      exact hn ((hasS_iff _ _).2 ha)
theorem AccOk.steps {ls : List Nat} {mv : List Int → List Int} (hm : MvOk ls mv) {s path : List Int} (hs : Good ls s) : ∀ (cs : List Int) {acc : Rch}, AccOk ls acc → (∀ c ∈ cs, c ∈ mv s) → AccOk ls (stepsN s path acc cs)
  | [], _, h, _ => h
  | c :: cs, _, h, hc => AccOk.steps hm hs cs (h.step hm hs (hc c (by simp))) (fun d hd => hc d (by simp [hd]))
theorem AccOk.round {ls : List Nat} {mv : List Int → List Int} (hm : MvOk ls mv) {acc : Rch} (h : AccOk ls acc) (i : Nat) : AccOk ls (roundN mv acc i) := by
  unfold roundN
  split
  · rename_i hi
    exact AccOk.steps hm (h.good _ (List.getElem_mem hi)) _ h (fun c hc => hc)
  · exact h
def zeroS (n : Nat) : List Int := List.replicate n 0
theorem good_zero (ls : List Nat) : Good ls (zeroS ls.length) := by
  refine ⟨by simp [zeroS], fun k hk => ?_⟩
  have : plc (zeroS ls.length) k = 0 := by simp [plc, zeroS, List.getD_eq_getElem?_getD, hk]
  omega
theorem bfs_ok {ls : List Nat} {mv : List Int → List Int} (hm : MvOk ls mv) : ∀ i, AccOk ls (bfs mv (zeroS ls.length) i)
  | 0 => ⟨by intro q hq; obtain rfl := List.mem_singleton.1 hq; exact good_zero ls, by simp [bfs]⟩
  | i + 1 => (bfs_ok hm i).round hm i
/-! the number of a state -/
def numN (s : List Int) (k : Nat) : Int := (s.take k).foldl (fun n x => n * 7 + x) 0
def numS (s : List Int) : Int := s.foldl (fun n x => n * 7 + x) 0
theorem numN_succ {s : List Int} {k : Nat} (hk : k < s.length) : numN s (k + 1) = numN s k * 7 + plc s k := by
  unfold numN
  rw [List.take_succ_eq_append_getElem hk, List.foldl_append]
  simp [plc, List.getD_eq_getElem?_getD, hk]
theorem numN_bd {s : List Int} (h : ∀ k, k < s.length → 0 ≤ plc s k ∧ plc s k ≤ 6) : ∀ k, k ≤ s.length → 0 ≤ numN s k ∧ numN s k < 7 ^ k
  | 0, _ => by simp [numN]
  | k + 1, hk => by
    have ih := numN_bd h k (by omega)
    have h1 := h k (by omega)
    rw [numN_succ (by omega)]
    have : (7 : Int) ^ (k + 1) = 7 ^ k * 7 := Int.pow_succ ..
    rw [this]
    generalize (7 : Int) ^ k = z at ih ⊢
    omega
theorem numN_inj {s t : List Int} (hl : s.length = t.length) (h : ∀ k, k < s.length → 0 ≤ plc s k ∧ plc s k ≤ 6) (h' : ∀ k, k < t.length → 0 ≤ plc t k ∧ plc t k ≤ 6) : ∀ k, k ≤ s.length → numN s k = numN t k → ∀ j, j < k → plc s j = plc t j
  | 0, _, _, j, hj => by omega
  | k + 1, hk, he, j, hj => by
    rw [numN_succ (by omega), numN_succ (by omega)] at he
    have h1 := h k (by omega); have h2 := h' k (by omega)
    have e : numN s k = numN t k ∧ plc s k = plc t k := by omega
    rcases Nat.lt_or_ge j k with hjk | hjk
    · exact numN_inj hl h h' k (by omega) e.1 j hjk
    · obtain rfl : j = k := by omega
      exact e.2
theorem numS_eq (s : List Int) : numS s = numN s s.length := by unfold numS numN; rw [List.take_of_length_le (Nat.le_refl _)]
theorem Good.le6 {ls : List Nat} {s : List Int} (h : Good ls s) (h5 : ∀ l ∈ ls, l ≤ 5) : ∀ k, k < s.length → 0 ≤ plc s k ∧ plc s k ≤ 6 := fun k hk => by
  have hk' : k < ls.length := by rw [← h.1]; exact hk
  have h1 := h.2 k hk'
  have h2 := h5 _ (List.getElem_mem hk')
  omega
theorem pow7 {n : Nat} (h : n ≤ 4) : (7 : Int) ^ n ≤ 2401 := by
  match n, h with
  | 0, _ => decide
  | 1, _ => decide
  | 2, _ => decide
  | 3, _ => decide
  | 4, _ => decide
theorem Good.num {ls : List Nat} {s : List Int} (h : Good ls s) (h5 : ∀ l ∈ ls, l ≤ 5) (h4 : ls.length ≤ 4) : 0 ≤ numS s ∧ numS s < 2401 := by
  have := numN_bd (h.le6 h5) s.length (Nat.le_refl _)
  rw [numS_eq]
  have h2 := pow7 (show s.length ≤ 4 by rw [h.1]; exact h4)
  omega
theorem Good.num_inj {ls : List Nat} {s t : List Int} (h : Good ls s) (h' : Good ls t) (h5 : ∀ l ∈ ls, l ≤ 5) (he : numS s = numS t) : s = t := by
  rw [numS_eq, numS_eq, h.1, h'.1] at he
  have hl : s.length = t.length := h.1.trans h'.1.symm
  have := numN_inj hl (h.le6 h5) (h'.le6 h5) ls.length (by rw [h.1]; exact Nat.le_refl _) he
  apply List.ext_getElem hl
  intro i h1 h2
  have h3 := this i (by rw [← h.1]; exact h1)
  simpa [plc, List.getD_eq_getElem?_getD, h1, h2] using h3
theorem nodup_bd : ∀ (n : Nat) (l : List Nat), l.Nodup → (∀ x ∈ l, x < n) → l.length ≤ n
  | 0, l, _, h => by
    cases l with
    | nil => simp
    | cons a l => exact absurd (h a (by simp)) (by omega)
  | n + 1, l, hd, h => by
    have h1 := nodup_bd n (l.filter (fun x => decide (x ≠ n))) (hd.filter _) (by
      intro x hx
      have := List.mem_filter.1 hx
      have h2 := h x this.1
      have h3 : x ≠ n := by simpa using this.2
      omega)
    have h2 : l.length ≤ (l.filter (fun x => decide (x ≠ n))).length + 1 := by
      clear h1 h
      induction l with
      | nil => simp
      | cons a l ih =>
        obtain ⟨ha, hd'⟩ := List.nodup_cons.1 hd
        by_cases e : a = n
        · subst e
          have : l.filter (fun x => decide (x ≠ a)) = l := List.filter_eq_self.2 (by intro x hx; simp; rintro rfl; exact ha hx)
          rw [List.filter_cons_of_neg (by simp), this]; simp
        · rw [List.filter_cons_of_pos (by simpa using e)]
          have := ih hd'
          simp only [List.length_cons]; omega
    omega
theorem AccOk.len {ls : List Nat} {acc : Rch} (h : AccOk ls acc) (h5 : ∀ l ∈ ls, l ≤ 5) (h4 : ls.length ≤ 4) : acc.length ≤ 2401 := by
  have h1 : ((acc.map Prod.fst).map (fun s => (numS s).toNat)).Nodup := by
    have h2 := h.nodup
    rw [List.nodup_iff_pairwise_ne] at h2 ⊢
    rw [List.pairwise_map]
    refine h2.imp_of_mem ?_
    intro a b ha hb hne he
    obtain ⟨qa, hqa, rfl⟩ := List.mem_map.1 ha
    obtain ⟨qb, hqb, rfl⟩ := List.mem_map.1 hb
    have ga := h.good _ hqa; have gb := h.good _ hqb
    have na := ga.num h5 h4; have nb := gb.num h5 h4
    exact hne (ga.num_inj gb h5 (by omega))
  have h3 := nodup_bd 2401 _ h1 (by
    intro x hx
    obtain ⟨s, hs, rfl⟩ := List.mem_map.1 hx
    obtain ⟨q, hq, rfl⟩ := List.mem_map.1 hs
    have := (h.good _ hq).num h5 h4
    omega)
  simpa using h3
/-- all that is reached -/
def bfsAll (mv : List Int → List Int) (z : List Int) : Rch := bfs mv z 2401
theorem bfs_end {ls : List Nat} {mv : List Int → List Int} (hm : MvOk ls mv) (h5 : ∀ l ∈ ls, l ≤ 5) (h4 : ls.length ≤ 4) {i : Nat} (h : (bfs mv (zeroS ls.length) i).length = i) : bfs mv (zeroS ls.length) i = bfsAll mv (zeroS ls.length) := by
  have := (bfs_ok hm i).len h5 h4
  unfold bfsAll
  have e : 2401 = i + (2401 - i) := by omega
  rw [e, bfs_stop mv _ h]
end Go.Proofs.Ytegabdhmfemgkaa
