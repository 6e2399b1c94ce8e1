/-
Lists of indices as tracks: plain laws, no program.
-/
import Derived.Test.YtlgeddbgbcineaaSensD
namespace Go.Proofs.Ytlgeddbgbcineaa
open Go.RowKit
set_option linter.unusedVariables false

theorem nodup_lt_len : ∀ (n : Nat) (l : List Nat), l.Nodup → (∀ x ∈ l, x < n) → l.length ≤ n
  | 0, l, _, h => by
    cases l with
    | nil => simp
    | cons a l => exact absurd (h a (by simp)) (by omega)
  | n + 1, l, hn, h => by
    by_cases hm : n ∈ l
    · have h1 := nodup_lt_len n (l.erase n) (hn.erase n) (fun x hx => by
        have h2 := h x (List.mem_of_mem_erase hx)
        have h3 : x ≠ n := fun e => by subst e; exact absurd hx (List.Nodup.not_mem_erase hn)
        omega)
      have := List.length_erase_of_mem hm
      omega
    · have h1 := nodup_lt_len n l hn (fun x hx => by
        have h2 := h x hx
        have h3 : x ≠ n := fun e => by subst e; exact hm hx
        omega)
      omega
theorem nodupI_len {n : Nat} {l : List Int} (h : l.Nodup) (hb : ∀ x ∈ l, 0 ≤ x ∧ x < (n : Int)) : l.length ≤ n := by
  have h1 := nodup_lt_len n (l.map Int.toNat) (by
    show List.Pairwise _ _
    rw [List.pairwise_map]
    refine List.Pairwise.imp_of_mem ?_ h
    intro a b ha hb' hne
    have := hb a ha; have := hb b hb'
    omega) (by
    intro x hx
    obtain ⟨y, hy, rfl⟩ := List.mem_map.1 hx
    have := hb y hy
    omega)
  simpa using h1
def rdg (ts : List Reading) (x : Int) : Reading := ts.getD x.toNat ⟨0, 0⟩
theorem rdg_at {ts : List Reading} {j : Nat} (h : j < ts.length) : rdg ts (j : Int) = ts[j] := by simp [rdg, List.getD_eq_getElem?_getD, h]
def chK (gs : List (List Int)) (ts : List Reading) (t : List Int) (k : Nat) : Bool := (k == 0) || mayP gs (rdg ts (t.getD (k - 1) 0)) (rdg ts (t.getD k 0))
def chainB (gs : List (List Int)) (ts : List Reading) (t : List Int) : Bool := (List.range t.length).all (chK gs ts t)
def areP (gs : List (List Int)) (ts : List Reading) (tr : List (List Int)) : Bool := tr.all (fun t => !t.isEmpty && chainB gs ts t) && decide (tr.flatten.Nodup) && decide (tr.flatten.length = ts.length)
def metL (n : Nat) (xs : List Int) : List Bool := (List.range n).map fun (j : Nat) => decide ((j : Int) ∈ xs)
theorem metL_len (n : Nat) (xs : List Int) : (metL n xs).length = n := by simp [metL]
theorem metL_at {n : Nat} {xs : List Int} {j : Nat} (h : j < (metL n xs).length) : (metL n xs)[j] = decide ((j : Int) ∈ xs) := by simp [metL]
theorem metL_nil (n : Nat) : metL n [] = List.replicate n false := by
  apply List.ext_getElem (by simp [metL])
  intro i h1 h2
  rw [metL_at]; simp
theorem metL_snoc {n : Nat} {xs : List Int} {j : Nat} (h : j < n) : metL n (xs ++ [(j : Int)]) = (metL n xs).set j true := by
  apply List.ext_getElem (by simp [metL])
  intro i h1 h2
  rw [metL_at, List.getElem_set, metL_at]
  by_cases e : j = i
  · subst e; simp
  · have : ¬ (i : Int) = (j : Int) := by omega
    simp [e, this]
/-- what has been walked through before place k of track i -/
def prefK (tr : List (List Int)) (i k : Nat) : List Int := (tr.take i).flatten ++ (tr.getD i []).take k
section
variable {gs : List (List Int)} {ts : List Reading} {tr : List (List Int)} {i k : Nat}
theorem prefK_zero : prefK tr i 0 = (tr.take i).flatten := by simp [prefK]
theorem prefK_succ (hi : i < tr.length) (hk : k < tr[i].length) : prefK tr i (k + 1) = prefK tr i k ++ [tr[i][k]] := by
  unfold prefK
  rw [show tr.getD i [] = tr[i] from by simp [List.getD_eq_getElem?_getD, hi], List.take_succ_eq_append_getElem hk, List.append_assoc]
theorem prefK_end (hi : i < tr.length) : prefK tr i tr[i].length = (tr.take (i + 1)).flatten := by
  unfold prefK
  rw [show tr.getD i [] = tr[i] from by simp [List.getD_eq_getElem?_getD, hi], List.take_of_length_le (Nat.le_refl _), List.take_succ_eq_append_getElem hi, List.flatten_append]
  congr 1
  rw [List.flatten_cons, List.flatten_nil, List.append_nil]
theorem prefK_sub (hi : i < tr.length) : List.Sublist (prefK tr i k) tr.flatten := by
  unfold prefK
  rw [show tr.getD i [] = tr[i] from by simp [List.getD_eq_getElem?_getD, hi]]
  have e : tr.flatten = (tr.take i).flatten ++ (tr[i] ++ (tr.drop (i + 1)).flatten) := by
    conv => lhs; rw [← List.take_append_drop i tr, List.drop_eq_getElem_cons hi]
    rw [List.flatten_append, List.flatten_cons]
  rw [e]
  exact List.Sublist.append (List.Sublist.refl _) ((List.take_sublist k _).trans (List.sublist_append_left _ _))
theorem prefK_mem (hi : i < tr.length) (hb : ∀ t ∈ tr, ∀ x ∈ t, 0 ≤ x ∧ x < (ts.length : Int)) : ∀ x ∈ prefK tr i k, 0 ≤ x ∧ x < (ts.length : Int) := fun x hx => by
  have := (prefK_sub hi).subset hx
  obtain ⟨t, ht, hxt⟩ := List.mem_flatten.1 this
  exact hb t ht x hxt
theorem are_empty (hi : i < tr.length) (h : tr[i].length = 0) : areP gs ts tr = false := by
  unfold areP
  rw [Bool.and_eq_false_iff, Bool.and_eq_false_iff]; refine .inl (.inl ?_)
  rw [List.all_eq_false]
  exact ⟨tr[i], List.getElem_mem hi, by rw [List.eq_nil_of_length_eq_zero h]; simp⟩
theorem are_chain (hi : i < tr.length) (hk : k < tr[i].length) (h : chK gs ts tr[i] k = false) : areP gs ts tr = false := by
  unfold areP
  rw [Bool.and_eq_false_iff, Bool.and_eq_false_iff]; refine .inl (.inl ?_)
  rw [List.all_eq_false]
  refine ⟨tr[i], List.getElem_mem hi, ?_⟩
  have : chainB gs ts tr[i] = false := by
    unfold chainB; rw [List.all_eq_false]; exact ⟨k, by simpa using hk, by rw [h]; simp⟩
  rw [this]; simp
theorem are_dup (hi : i < tr.length) (h : ¬ (prefK tr i k).Nodup) : areP gs ts tr = false := by
  unfold areP
  rw [Bool.and_eq_false_iff, Bool.and_eq_false_iff]; refine .inl (.inr ?_)
  rw [decide_eq_false_iff_not]; intro hn
  exact h (hn.sublist (prefK_sub hi))
theorem are_end (h1 : ∀ t ∈ tr, t ≠ [] ∧ chainB gs ts t = true) (h2 : tr.flatten.Nodup) : areP gs ts tr = decide (tr.flatten.length = ts.length) := by
  unfold areP
  have e : tr.all (fun t => !t.isEmpty && chainB gs ts t) = true := by
    rw [List.all_eq_true]; intro t ht
    obtain ⟨h3, h4⟩ := h1 t ht
    rw [h4]; cases t with
    | nil => exact absurd rfl h3
    | cons => rfl
  rw [e, decide_eq_true h2]; rfl
theorem are_true (h : areP gs ts tr = true) : (∀ t ∈ tr, t ≠ [] ∧ chainB gs ts t = true) ∧ tr.flatten.Nodup ∧ tr.flatten.length = ts.length := by
  simp only [areP, Bool.and_eq_true, List.all_eq_true, decide_eq_true_eq] at h
  refine ⟨fun t ht => ?_, h.1.2, h.2⟩
  obtain ⟨h1, h2⟩ := h.1.1 t ht
  exact ⟨by rintro rfl; simp at h1, h2⟩
theorem chK_zero {t : List Int} : chK gs ts t 0 = true := rfl
theorem chK_pos {t : List Int} (h0 : k ≠ 0) (hk : k < t.length) : chK gs ts t k = mayP gs (rdg ts (t[k - 1]'(by omega))) (rdg ts t[k]) := by
  unfold chK
  have : (k == 0) = false := by simp [h0]
  rw [this, Bool.false_or]
  simp [List.getD_eq_getElem?_getD, hk, show k - 1 < t.length from by omega]
end
def idxOk (n : Nat) (tr : List (List Int)) : Bool := tr.all fun t => t.all fun x => inB x 0 ((n : Int) - 1)
theorem idxOk_at {n : Nat} {tr : List (List Int)} (h : idxOk n tr = true) : ∀ t ∈ tr, ∀ x ∈ t, 0 ≤ x ∧ x < (n : Int) := fun t ht x hx => by
  simp only [idxOk, List.all_eq_true] at h
  have := inB_iff.1 (h t ht x hx); omega
def codeT (gs : List (List Int)) (ts : List Reading) (tr : List (List Int)) : Int := if readsOk gs ts = true then (if idxOk ts.length tr = true then 0 else 2) else 1
def arR (gs : List (List Int)) (ts : List Reading) (tr : List (List Int)) : Bool × Int := if codeT gs ts tr = 0 then (areP gs ts tr, 0) else (false, codeT gs ts tr)
/-- how many tracks end at each sensor, but for the last one -/
def lastS (ts : List Reading) (t : List Int) : Nat := (rdg ts (t.getD (t.length - 1) 0)).sensor.toNat
def incL (l : List Int) (s : Nat) : List Int := l.set s (l.getD s 0 + 1)
def lostI (m : Nat) (ts : List Reading) (tr : List (List Int)) (i : Nat) : List Int := (tr.take i).foldl (fun l t => incL l (lastS ts t)) (List.replicate (m + 1) 0)
def lostS (m : Nat) (ts : List Reading) (tr : List (List Int)) (i : Nat) : List Int := (tr.take i).foldl (fun l t => if lastS ts t < m then incL l (lastS ts t) else l) (List.replicate (m + 1) 0)
def lostR (gs : List (List Int)) (ts : List Reading) (tr : List (List Int)) : List Int × Int := if codeT gs ts tr = 0 then (if areP gs ts tr = true then (lostS gs.length ts tr tr.length, 0) else ([], 9)) else ([], codeT gs ts tr)
section
variable {m : Nat} {ts : List Reading} {tr : List (List Int)} {i : Nat}
theorem incL_len (l : List Int) (s : Nat) : (incL l s).length = l.length := by simp [incL]
theorem lostI_succ (hi : i < tr.length) : lostI m ts tr (i + 1) = incL (lostI m ts tr i) (lastS ts tr[i]) := by
  unfold lostI; rw [List.take_succ_eq_append_getElem hi, List.foldl_append]; rfl
theorem lostS_succ (hi : i < tr.length) : lostS m ts tr (i + 1) = if lastS ts tr[i] < m then incL (lostS m ts tr i) (lastS ts tr[i]) else lostS m ts tr i := by
  unfold lostS; rw [List.take_succ_eq_append_getElem hi, List.foldl_append]; rfl
theorem incL_bd {l : List Int} {s : Nat} {b : Int} (h : ∀ x ∈ l, 0 ≤ x ∧ x ≤ b) (hb : 0 ≤ b) : ∀ x ∈ incL l s, 0 ≤ x ∧ x ≤ b + 1 := fun x hx => by
  unfold incL at hx
  rcases List.mem_or_eq_of_mem_set hx with hx | rfl
  · have := h x hx; omega
  · by_cases hs : s < l.length
    · rw [List.getD_eq_getElem?_getD, List.getElem?_eq_getElem hs]
      have := h _ (List.getElem_mem hs)
      simp only [Option.getD_some]; omega
    · rw [List.getD_eq_getElem?_getD, List.getElem?_eq_none (by omega)]; simp only [Option.getD_none]; omega
theorem lostI_inv : ∀ i, i ≤ tr.length → (lostI m ts tr i).length = m + 1 ∧ ∀ x ∈ lostI m ts tr i, 0 ≤ x ∧ x ≤ (i : Int)
  | 0, _ => ⟨by simp [lostI], fun x hx => by simp [lostI] at hx; omega⟩
  | i + 1, h => by
    obtain ⟨h1, h2⟩ := lostI_inv i (by omega)
    rw [lostI_succ (by omega)]
    exact ⟨by rw [incL_len, h1], fun x hx => by have := incL_bd h2 (by omega) x hx; omega⟩
theorem lostS_inv : ∀ i, i ≤ tr.length → (lostS m ts tr i).length = m + 1 ∧ ∀ x ∈ lostS m ts tr i, 0 ≤ x ∧ x ≤ (i : Int)
  | 0, _ => ⟨by simp [lostS], fun x hx => by simp [lostS] at hx; omega⟩
  | i + 1, h => by
    obtain ⟨h1, h2⟩ := lostS_inv i (by omega)
    rw [lostS_succ (by omega)]
    split
    · exact ⟨by rw [incL_len, h1], fun x hx => by have := incL_bd h2 (by omega) x hx; omega⟩
    · exact ⟨h1, fun x hx => by have := h2 x hx; omega⟩
theorem lost_eq (hl : ∀ t ∈ tr, lastS ts t ≤ m) : ∀ i, i ≤ tr.length → (lostI m ts tr i).set m 0 = lostS m ts tr i
  | 0, _ => by
    apply List.ext_getElem (by simp [lostI, lostS])
    intro j h1 h2
    simp [lostI, lostS]
  | i + 1, h => by
    have ih := lost_eq hl i (by omega)
    obtain ⟨h1, -⟩ := lostI_inv (m := m) (ts := ts) i (show i ≤ tr.length by omega)
    have hle := hl _ (List.getElem_mem (show i < tr.length by omega))
    rw [lostI_succ (by omega), lostS_succ (by omega), ← ih]
    unfold incL
    by_cases hm : lastS ts tr[i] < m
    · rw [if_pos hm, List.set_comm _ _ (by omega)]
      congr 1
      simp [List.getD_eq_getElem?_getD, show ¬ m = lastS ts tr[i] from by omega]
    · rw [if_neg hm]
      have : lastS ts tr[i] = m := by omega
      rw [this, List.set_set]
end
end Go.Proofs.Ytlgeddbgbcineaa
