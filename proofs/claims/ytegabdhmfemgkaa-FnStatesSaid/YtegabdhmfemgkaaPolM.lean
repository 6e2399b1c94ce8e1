/-
Safe states of carriers; safe moves; a run by them. Plain laws.
-/
import Derived.Test.YtegabdhmfemgkaaPolL
namespace Go.Proofs.Ytegabdhmfemgkaa
open Go.RowKit
set_option linter.unusedVariables false

/-! safe states -/
def safeN (mv : List Int → List Int) (dn : List Int → Bool) : Nat → List Int → Bool
  | 0, s => dn s
  | f + 1, s => dn s || (mv s).any fun c => safeN mv dn f (nxS s c)
theorem sum_set {s : List Int} {k : Nat} (hk : k < s.length) (x : Int) : (s.set k x).sum = s.sum - s[k] + x := by
  have h1 : s.set k x = s.take k ++ x :: s.drop (k + 1) := List.set_eq_take_append_cons_drop.trans (if_pos hk)
  have h2 : s = s.take k ++ s[k] :: s.drop (k + 1) := by rw [← List.drop_eq_getElem_cons hk, List.take_append_drop]
  have e1 : (s.set k x).sum = (s.take k).sum + (x + (s.drop (k + 1)).sum) := by rw [h1, List.sum_append, List.sum_cons]
  have e2 : s.sum = (s.take k).sum + (s[k] + (s.drop (k + 1)).sum) := by
    calc s.sum = (s.take k ++ s[k] :: s.drop (k + 1)).sum := by rw [← h2]
      _ = _ := by rw [List.sum_append, List.sum_cons]
  omega
theorem sum_nx {ls : List Nat} {mv : List Int → List Int} (hm : MvOk ls mv) {s : List Int} (hs : Good ls s) {c : Int} (hc : c ∈ mv s) : (nxS s c).sum = s.sum + 1 := by
  obtain ⟨k, h, rfl, _⟩ := hm s hs c hc
  have hk : k < s.length := by rw [hs.1]; exact h
  show (s.set k (plc s k + 1)).sum = _
  rw [sum_set hk]
  have : plc s k = s[k] := by simp [plc, List.getD_eq_getElem?_getD, hk]
  omega
theorem sum_le6 : ∀ (s : List Int), (∀ x ∈ s, 0 ≤ x ∧ x ≤ 6) → 0 ≤ s.sum ∧ s.sum ≤ 6 * (s.length : Int)
  | [], _ => by simp
  | x :: s, h => by
    have := sum_le6 s (fun y hy => h y (by simp [hy]))
    have := h x (by simp)
    simp only [List.sum_cons, List.length_cons]; omega
theorem Good.sum {ls : List Nat} {s : List Int} (h : Good ls s) (h5 : ∀ l ∈ ls, l ≤ 5) (h4 : ls.length ≤ 4) : 0 ≤ s.sum ∧ s.sum ≤ 24 := by
  have := sum_le6 s (fun x hx => by
    obtain ⟨i, hi, rfl⟩ := List.mem_iff_getElem.1 hx
    have := h.le6 h5 i hi
    simpa [plc, List.getD_eq_getElem?_getD, hi] using this)
  have := h.1
  omega
theorem safeN_more {ls : List Nat} {mv : List Int → List Int} (hm : MvOk ls mv) (h5 : ∀ l ∈ ls, l ≤ 5) (h4 : ls.length ≤ 4) (dn : List Int → Bool) : ∀ (f : Nat) (s : List Int), Good ls s → 24 ≤ s.sum + f → safeN mv dn (f + 1) s = safeN mv dn f s
  | 0, s, hs, hf => by
    have hsum := hs.sum h5 h4
    have : mv s = [] := by
      cases he : mv s with
      | nil => rfl
      | cons c cs =>
        have hc : c ∈ mv s := by rw [he]; simp
        have h1 := sum_nx hm hs hc
        have h2 := (good_nx hm hs hc).sum h5 h4
        omega
    simp [safeN, this]
  | f + 1, s, hs, hf => by
    show (dn s || (mv s).any fun c => safeN mv dn (f + 1) (nxS s c)) = (dn s || (mv s).any fun c => safeN mv dn f (nxS s c))
    congr 1
    rw [Bool.eq_iff_iff, List.any_eq_true, List.any_eq_true]
    constructor
    · rintro ⟨c, hc, h⟩
      refine ⟨c, hc, ?_⟩
      rwa [safeN_more hm h5 h4 dn f _ (good_nx hm hs hc) (by rw [sum_nx hm hs hc]; omega)] at h
    · rintro ⟨c, hc, h⟩
      refine ⟨c, hc, ?_⟩
      rwa [safeN_more hm h5 h4 dn f _ (good_nx hm hs hc) (by rw [sum_nx hm hs hc]; omega)]
def safeS (mv : List Int → List Int) (dn : List Int → Bool) (s : List Int) : Bool := safeN mv dn 24 s
theorem safe_step {ls : List Nat} {mv : List Int → List Int} (hm : MvOk ls mv) (h5 : ∀ l ∈ ls, l ≤ 5) (h4 : ls.length ≤ 4) (dn : List Int → Bool) {s : List Int} (hs : Good ls s) : safeS mv dn s = (dn s || (mv s).any fun c => safeS mv dn (nxS s c)) := by
  unfold safeS
  have h0 := (hs.sum h5 h4).1
  rw [← safeN_more hm h5 h4 dn 24 s hs (by omega)]
  rfl
/-- the moves to safe states -/
def safeMv (mv : List Int → List Int) (dn : List Int → Bool) (s : List Int) : List Int := (mv s).filter fun c => safeS mv dn (nxS s c)
def safeMvK (mv : List Int → List Int) (dn : List Int → Bool) (s : List Int) (k : Nat) : List Int := ((mv s).take k).filter fun c => safeS mv dn (nxS s c)
theorem safeMvK_succ {mv : List Int → List Int} {dn : List Int → Bool} {s : List Int} {k : Nat} (hk : k < (mv s).length) : safeMvK mv dn s (k + 1) = if safeS mv dn (nxS s (mv s)[k]) = true then safeMvK mv dn s k ++ [(mv s)[k]] else safeMvK mv dn s k := by
  unfold safeMvK
  rw [List.take_succ_eq_append_getElem hk, List.filter_append]
  by_cases h : safeS mv dn (nxS s (mv s)[k]) = true
  · rw [if_pos h]; simp [h]
  · rw [if_neg h]; simp [h]
theorem safeMvK_all {mv : List Int → List Int} {dn : List Int → Bool} {s : List Int} : safeMvK mv dn s (mv s).length = safeMv mv dn s := by
  unfold safeMvK safeMv; rw [List.take_of_length_le (Nat.le_refl _)]
theorem safeMvK_len (mv : List Int → List Int) (dn : List Int → Bool) (s : List Int) (k : Nat) : (safeMvK mv dn s k).length ≤ k := by
  unfold safeMvK
  exact Nat.le_trans (List.length_filter_le _ _) (by simp; omega)
/-- a run by the first safe moves: the state and the moves after k of them -/
def runK (mv : List Int → List Int) (dn : List Int → Bool) (z : List Int) : Nat → List Int × List Int
  | 0 => (z, [])
  | k + 1 => match safeMv mv dn (runK mv dn z k).1 with
    | [] => runK mv dn z k
    | c :: _ => (nxS (runK mv dn z k).1 c, (runK mv dn z k).2 ++ [c])
theorem runK_go {mv : List Int → List Int} {dn : List Int → Bool} {z : List Int} {k : Nat} {c : Int} {cs : List Int} (h : safeMv mv dn (runK mv dn z k).1 = c :: cs) : runK mv dn z (k + 1) = (nxS (runK mv dn z k).1 c, (runK mv dn z k).2 ++ [c]) := by
  show (match safeMv mv dn (runK mv dn z k).1 with | [] => runK mv dn z k | c :: _ => (nxS (runK mv dn z k).1 c, (runK mv dn z k).2 ++ [c])) = _
  rw [h]
theorem runK_end {mv : List Int → List Int} {dn : List Int → Bool} {z : List Int} {k : Nat} (h : safeMv mv dn (runK mv dn z k).1 = []) : ∀ d, runK mv dn z (k + d) = runK mv dn z k
  | 0 => rfl
  | d + 1 => by
    show (match safeMv mv dn (runK mv dn z (k + d)).1 with | [] => runK mv dn z (k + d) | c :: _ => (nxS (runK mv dn z (k + d)).1 c, (runK mv dn z (k + d)).2 ++ [c])) = _
    rw [runK_end h d, h]
/-- at each step: good, safe, as many as steps -/
structure RunOk (ls : List Nat) (mv : List Int → List Int) (dn : List Int → Bool) (z : List Int) (k : Nat) : Prop where
  good : Good ls (runK mv dn z k).1
  safe : safeS mv dn (runK mv dn z k).1 = true
  sum : (runK mv dn z k).1.sum = (k : Int)
  len : (runK mv dn z k).2.length = k
theorem RunOk.next {ls : List Nat} {mv : List Int → List Int} {dn : List Int → Bool} {z : List Int} {k : Nat} (hm : MvOk ls mv) (h : RunOk ls mv dn z k) {c : Int} {cs : List Int} (he : safeMv mv dn (runK mv dn z k).1 = c :: cs) : RunOk ls mv dn z (k + 1) := by
  have hc : c ∈ safeMv mv dn (runK mv dn z k).1 := by rw [he]; simp
  obtain ⟨h1, h2⟩ := List.mem_filter.1 hc
  have e := runK_go he
  exact ⟨by rw [e]; exact good_nx hm h.good h1, by rw [e]; exact h2, by rw [e]; show (nxS _ c).sum = _; rw [sum_nx hm h.good h1, h.sum]; omega, by rw [e]; simp [h.len]⟩
theorem safe_ends {ls : List Nat} {mv : List Int → List Int} (hm : MvOk ls mv) (h5 : ∀ l ∈ ls, l ≤ 5) (h4 : ls.length ≤ 4) {dn : List Int → Bool} (hd : ∀ s, Good ls s → dn s = true → mv s = []) {s : List Int} (hs : Good ls s) (h : safeS mv dn s = true) : safeMv mv dn s = [] ↔ dn s = true := by
  constructor
  · intro he
    rw [safe_step hm h5 h4 dn hs, Bool.or_eq_true] at h
    rcases h with h | h
    · exact h
    · obtain ⟨c, hc, hx⟩ := List.any_eq_true.1 h
      have : c ∈ safeMv mv dn s := List.mem_filter.2 ⟨hc, hx⟩
      rw [he] at this; cases this
  · intro he
    unfold safeMv
    rw [hd s hs he]; rfl
def runAll (mv : List Int → List Int) (dn : List Int → Bool) (z : List Int) : List Int := (runK mv dn z 24).2
theorem RunOk.le {ls : List Nat} {mv : List Int → List Int} {dn : List Int → Bool} {z : List Int} {k : Nat} (h5 : ∀ l ∈ ls, l ≤ 5) (h4 : ls.length ≤ 4) (h : RunOk ls mv dn z k) : k ≤ 24 := by
  have h1 := h.good.sum h5 h4
  have h2 := h.sum
  omega
theorem RunOk.fin {ls : List Nat} {mv : List Int → List Int} {dn : List Int → Bool} {z : List Int} {k : Nat} (h5 : ∀ l ∈ ls, l ≤ 5) (h4 : ls.length ≤ 4) (h : RunOk ls mv dn z k) (he : safeMv mv dn (runK mv dn z k).1 = []) : (runK mv dn z k).2 = runAll mv dn z := by
  have := h.le h5 h4
  unfold runAll
  have e : 24 = k + (24 - k) := by omega
  rw [e, runK_end he]
/-! of carriers -/
section
variable {halls : List Int} {ways : List (List Int)} {s : List Int}
theorem done_moves {most : Int} (hd : doneS ways s = true) : movesL halls ways most s = [] := by
  cases he : movesL halls ways most s with
  | nil => rfl
  | cons c cs =>
    obtain ⟨k, hk, _, hm⟩ := mem_moves.1 (show c ∈ movesL halls ways most s by rw [he]; simp)
    have := mvB_le hk hm
    have := doneS_iff.1 hd k hk
    omega
theorem mvB_mono {most most' : Int} {k : Nat} (hk : k < ways.length) (hle : most ≤ most') (h : mvB halls ways most s k = true) : mvB halls ways most' s k = true := by
  rw [mvB_at hk] at h ⊢
  by_cases h1 : (ways[k].length : Int) < plc s k
  · rw [if_pos h1] at h; cases h
  · rw [if_neg h1] at h ⊢
    by_cases h2 : plc s k = 0 ∧ most ≤ allF ways s ways.length
    · rw [if_pos h2] at h; cases h
    · rw [if_neg h2] at h
      rw [if_neg (by omega)]
      exact h
def safeT (halls : List Int) (ways : List (List Int)) : List Int → Bool := safeS (movesL halls ways 4) (doneS ways)
theorem safe_alone (ht : travOk halls ways = true) : ∀ (d : Nat) (s : List Int), Good (lensW ways) s → allF ways s ways.length ≤ 1 → 24 ≤ s.sum + d → safeT halls ways s = true
  | 0, s, hs, ha, hd => by
    unfold safeT
    rw [safe_step mvOk_moves (lens5 ht) (lens4 ht) (doneS ways) hs]
    cases hdn : doneS ways s with
    | true => rfl
    | false =>
      exfalso
      have h1 := move1 ht hs ha hdn
      cases he : movesL halls ways 1 s with
      | nil => exact h1 he
      | cons c cs =>
        have hc : c ∈ movesL halls ways 1 s := by rw [he]; simp
        have h2 := sum_nx mvOk_moves hs hc
        have h3 := (good_nx mvOk_moves hs hc).sum (lens5 ht) (lens4 ht)
        omega
  | d + 1, s, hs, ha, hd => by
    unfold safeT
    rw [safe_step mvOk_moves (lens5 ht) (lens4 ht) (doneS ways) hs]
    cases hdn : doneS ways s with
    | true => rfl
    | false =>
      have h1 := move1 ht hs ha hdn
      cases he : movesL halls ways 1 s with
      | nil => exact absurd he h1
      | cons c cs =>
        have hc : c ∈ movesL halls ways 1 s := by rw [he]; simp
        have h2 := sum_nx mvOk_moves hs hc
        have h3 := safe_alone ht d _ (good_nx mvOk_moves hs hc) (inside1 ht hs ha hc) (by omega)
        rw [Bool.false_or, List.any_eq_true]
        obtain ⟨k, hk, hck, hmv⟩ := mem_moves.1 hc
        exact ⟨c, mem_moves.2 ⟨k, hk, hck, mvB_mono hk (by omega) hmv⟩, h3⟩
theorem safe_zero (ht : travOk halls ways = true) : safeT halls ways (zeroS ways.length) = true := by
  have hg : Good (lensW ways) (zeroS ways.length) := by have := good_zero (lensW ways); rwa [lensW_len] at this
  refine safe_alone ht 24 _ hg ?_ (by have := (hg.sum (lens5 ht) (lens4 ht)).1; omega)
  rw [allF_none]; · omega
  intro k hk
  rw [← hallK_at _ hk]
  have : plc (zeroS ways.length) k = 0 := by simp [plc, zeroS, List.getD_eq_getElem?_getD, hk]
  rw [this, hallP_neg (.inl (by omega))]; omega
def runT (halls : List Int) (ways : List (List Int)) (k : Nat) : List Int × List Int := runK (movesL halls ways 4) (doneS ways) (zeroS ways.length) k
def RunT (halls : List Int) (ways : List (List Int)) (k : Nat) : Prop := RunOk (lensW ways) (movesL halls ways 4) (doneS ways) (zeroS ways.length) k
theorem runT_zero (ht : travOk halls ways = true) : RunT halls ways 0 :=
  ⟨by have := good_zero (lensW ways); rwa [lensW_len] at this, safe_zero ht, by simp [runK, zeroS], rfl⟩
end
end Go.Proofs.Ytegabdhmfemgkaa
