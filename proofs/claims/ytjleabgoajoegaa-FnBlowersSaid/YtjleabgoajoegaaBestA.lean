/-
Plain laws of BestDay: the cheapest sets from an hour on, the tables of both programs, the way out of them. No program but the reading of tables.
-/
import Derived.Test.YtjleabgoajoegaaBlowD
import Derived.Test.YtjleabgoajoegaaOwn
namespace Go.Proofs.Ytjleabgoajoegaa
open Go.RowKit
set_option linter.unusedVariables false
set_option linter.unusedSimpArgs false

/-! the cheapest sets from an hour on -/
/-- the first of the best among the first k sets, and what it costs; -1 for none -/
def bstep (ts : List Blower) (need : Int) (f : Nat → Int) (b : Int) : Nat → Int × Int
  | 0 => (0, -1)
  | k + 1 => if powT ts k < need ∨ f k < 0 then bstep ts need f b k else if (bstep ts need f b k).2 < 0 ∨ stepT ts b k + f k < (bstep ts need f b k).2 then ((k : Int), stepT ts b k + f k) else bstep ts need f b k
def restF (ts : List Blower) (N : Nat) : List Int → Nat → Int
  | [], _ => 0
  | need :: more, b => (bstep ts need (restF ts N more) (b : Int) N).2
theorem bstep_no {ts : List Blower} {need : Int} {f : Nat → Int} {b : Int} {k : Nat} (h : powT ts k < need ∨ f k < 0) : bstep ts need f b (k + 1) = bstep ts need f b k := by rw [bstep, if_pos h]
theorem bstep_new {ts : List Blower} {need : Int} {f : Nat → Int} {b : Int} {k : Nat} (h : need ≤ powT ts k) (h0 : 0 ≤ f k) (h' : (bstep ts need f b k).2 < 0 ∨ stepT ts b k + f k < (bstep ts need f b k).2) : bstep ts need f b (k + 1) = ((k : Int), stepT ts b k + f k) := by
  rw [bstep, if_neg (by omega), if_pos h']
theorem bstep_old {ts : List Blower} {need : Int} {f : Nat → Int} {b : Int} {k : Nat} (h' : ¬ ((bstep ts need f b k).2 < 0 ∨ stepT ts b k + f k < (bstep ts need f b k).2)) : bstep ts need f b (k + 1) = bstep ts need f b k := by
  rw [bstep]
  by_cases h : powT ts k < need ∨ f k < 0
  · rw [if_pos h]
  · rw [if_neg h, if_neg h']
/-- what holds of the best of k sets -/
structure BOk (ts : List Blower) (need : Int) (f : Nat → Int) (b : Int) (k : Nat) (p : Int × Int) : Prop where
  none_or : p = (0, -1) ∨ (0 ≤ p.2 ∧ ∃ j : Nat, j < k ∧ p.1 = (j : Int) ∧ need ≤ powT ts j ∧ 0 ≤ f j ∧ p.2 = stepT ts b j + f j ∧ ∀ i : Nat, i < j → need ≤ powT ts i → 0 ≤ f i → p.2 < stepT ts b i + f i)
  all : ∀ i : Nat, i < k → need ≤ powT ts i → 0 ≤ f i → 0 ≤ p.2 ∧ p.2 ≤ stepT ts b i + f i
theorem bstep_ok {ts : List Blower} (hs : ∀ b s, 0 ≤ stepT ts b s) (need : Int) (f : Nat → Int) (b : Int) : ∀ k, BOk ts need f b k (bstep ts need f b k)
  | 0 => ⟨.inl rfl, fun i hi => by omega⟩
  | k + 1 => by
    have ih := bstep_ok hs need f b k
    by_cases h : powT ts k < need ∨ f k < 0
    · rw [bstep_no h]
      refine ⟨?_, fun i hi h1 h2 => ?_⟩
      · rcases ih.none_or with h3 | ⟨h3, j, hj, h4⟩
        · exact .inl h3
        · exact .inr ⟨h3, j, by omega, h4⟩
      · by_cases e : i = k
        · subst e; omega
        · exact ih.all i (by omega) h1 h2
    · by_cases h' : (bstep ts need f b k).2 < 0 ∨ stepT ts b k + f k < (bstep ts need f b k).2
      · rw [bstep_new (by omega) (by omega) h']
        have := hs b k
        refine ⟨.inr ⟨by dsimp only; omega, k, by omega, rfl, by omega, by omega, rfl, fun i hi h1 h2 => ?_⟩, fun i hi h1 h2 => ?_⟩
        · have := ih.all i hi h1 h2; dsimp only; omega
        · by_cases e : i = k
          · subst e; dsimp only; omega
          · have := ih.all i (by omega) h1 h2; dsimp only; omega
      · rw [bstep_old h']
        refine ⟨?_, fun i hi h1 h2 => ?_⟩
        · rcases ih.none_or with h3 | ⟨h3, j, hj, h4⟩
          · exact .inl h3
          · exact .inr ⟨h3, j, by omega, h4⟩
        · by_cases e : i = k
          · subst e; omega
          · exact ih.all i (by omega) h1 h2
theorem restF_bd {ts : List Blower} (hs : ∀ b s, 0 ≤ stepT ts b s ∧ stepT ts b s ≤ 80000) (N : Nat) : ∀ (needs : List Int) (b : Nat), restF ts N needs b = -1 ∨ (0 ≤ restF ts N needs b ∧ restF ts N needs b ≤ 80000 * (needs.length : Int))
  | [], b => .inr ⟨Int.le_refl _, by simp [restF]⟩
  | need :: more, b => by
    show (bstep ts need (restF ts N more) (b : Int) N).2 = -1 ∨ _
    rcases (bstep_ok (fun b s => (hs b s).1) need (restF ts N more) (b : Int) N).none_or with h | ⟨h, j, hj, _, _, h2, h3, _⟩
    · exact .inl (by rw [h])
    · have h4 := restF_bd hs N more j
      have h5 := hs b j
      refine .inr ⟨h, ?_⟩
      show (bstep ts need (restF ts N more) (b : Int) N).2 ≤ _
      rw [h3]; simp only [List.length_cons]; omega
/-- where every need is within the power of all, there is always a set -/
theorem restF_all {ts : List Blower} (hs : ∀ b s, 0 ≤ stepT ts b s) {N : Nat} (hN : 0 < N) : ∀ (needs : List Int), (∀ n ∈ needs, n ≤ powT ts ((N - 1 : Nat) : Int)) → ∀ b, 0 ≤ restF ts N needs b
  | [], _, b => Int.le_refl _
  | need :: more, h, b => by
    have ih := restF_all hs hN more (fun n hn => h n (by simp [hn]))
    exact ((bstep_ok hs need (restF ts N more) (b : Int) N).all (N - 1) (by omega) (h need (by simp)) (ih _)).1
theorem bstep_void {ts : List Blower} {need : Int} {f : Nat → Int} {b : Int} : ∀ k, (∀ i : Nat, i < k → powT ts i < need ∨ f i < 0) → bstep ts need f b k = (0, -1)
  | 0, _ => rfl
  | k + 1, h => by rw [bstep_no (h k (by omega)), bstep_void k (fun i hi => h i (by omega))]
/-- where a need is beyond the power of all, there is no set -/
theorem restF_none {ts : List Blower} {N : Nat} (hm : ∀ i : Nat, i < N → powT ts i ≤ powT ts ((N - 1 : Nat) : Int)) : ∀ (needs : List Int), (∃ n ∈ needs, powT ts ((N - 1 : Nat) : Int) < n) → ∀ b, restF ts N needs b = -1
  | [], h, b => by obtain ⟨_, hn, _⟩ := h; cases hn
  | need :: more, h, b => by
    show (bstep ts need (restF ts N more) (b : Int) N).2 = -1
    by_cases hx : powT ts ((N - 1 : Nat) : Int) < need
    · rw [bstep_void N (fun i hi => .inl (by have := hm i hi; omega))]
    · obtain ⟨n, hn, h2⟩ := h
      rcases List.mem_cons.1 hn with rfl | hn
      · exact absurd h2 hx
      · have ih := restF_none hm more ⟨n, hn, h2⟩
        rw [bstep_void N (fun i hi => .inr (by rw [ih]; omega))]
/-- a row of the table -/
def rowF (ts : List Blower) (N : Nat) (needs : List Int) (k : Nat) : List Int := (List.range k).map fun b => restF ts N needs b
def rowN (ts : List Blower) (N : Nat) (need : Int) (more : List Int) (k : Nat) : List Int := (List.range k).map fun (b : Nat) => (bstep ts need (restF ts N more) (b : Int) N).1
theorem rowF_succ (ts : List Blower) (N : Nat) (needs : List Int) (k : Nat) : rowF ts N needs (k + 1) = rowF ts N needs k ++ [restF ts N needs k] := by simp [rowF, List.range_succ]
theorem rowN_succ (ts : List Blower) (N : Nat) (need : Int) (more : List Int) (k : Nat) : rowN ts N need more (k + 1) = rowN ts N need more k ++ [(bstep ts need (restF ts N more) (k : Int) N).1] := by simp [rowN, List.range_succ]
theorem rowF_len (ts : List Blower) (N : Nat) (needs : List Int) (k : Nat) : (rowF ts N needs k).length = k := by simp [rowF]
theorem rowN_len (ts : List Blower) (N : Nat) (need : Int) (more : List Int) (k : Nat) : (rowN ts N need more k).length = k := by simp [rowN]
theorem rowF_get {ts : List Blower} {N : Nat} {needs : List Int} {k b : Nat} (h : b < (rowF ts N needs k).length) : (rowF ts N needs k)[b] = restF ts N needs b := by simp [rowF]
theorem rowN_get {ts : List Blower} {N : Nat} {need : Int} {more : List Int} {k b : Nat} (h : b < (rowN ts N need more k).length) : (rowN ts N need more k)[b] = (bstep ts need (restF ts N more) (b : Int) N).1 := by simp [rowN]
/-- the set ahead of hour h on the way -/
def befF (ts : List Blower) (N : Nat) (needs : List Int) : Nat → Nat
  | 0 => 0
  | h + 1 => (bstep ts (needs.getD h 0) (restF ts N (needs.drop (h + 1))) (befF ts N needs h : Int) N).1.toNat
def outF (ts : List Blower) (N : Nat) (needs : List Int) (k : Nat) : List Int := (List.range k).map fun h => ((befF ts N needs (h + 1) : Nat) : Int)
theorem outF_succ (ts : List Blower) (N : Nat) (needs : List Int) (k : Nat) : outF ts N needs (k + 1) = outF ts N needs k ++ [((befF ts N needs (k + 1) : Nat) : Int)] := by simp [outF, List.range_succ]
theorem outF_len (ts : List Blower) (N : Nat) (needs : List Int) (k : Nat) : (outF ts N needs k).length = k := by simp [outF]
theorem drop_at {needs : List Int} {h : Nat} (hh : h < needs.length) : needs.drop h = needs.getD h 0 :: needs.drop (h + 1) := by
  rw [List.drop_eq_getElem_cons hh]; simp [List.getD_eq_getElem?_getD, hh]
/-- on the way every hour has a set: what holds of it -/
theorem bef_at {ts : List Blower} (hs : ∀ b s, 0 ≤ stepT ts b s) {N : Nat} {needs : List Int} {h : Nat} (hh : h < needs.length) (hr : 0 ≤ restF ts N (needs.drop h) (befF ts N needs h)) :
    befF ts N needs (h + 1) < N ∧ (bstep ts (needs.getD h 0) (restF ts N (needs.drop (h + 1))) (befF ts N needs h : Int) N).1 = (befF ts N needs (h + 1) : Int) ∧
    needs.getD h 0 ≤ powT ts (befF ts N needs (h + 1) : Int) ∧ 0 ≤ restF ts N (needs.drop (h + 1)) (befF ts N needs (h + 1)) ∧
    restF ts N (needs.drop h) (befF ts N needs h) = stepT ts (befF ts N needs h : Int) (befF ts N needs (h + 1) : Int) + restF ts N (needs.drop (h + 1)) (befF ts N needs (h + 1)) ∧
    ∀ i : Nat, i < befF ts N needs (h + 1) → needs.getD h 0 ≤ powT ts i → 0 ≤ restF ts N (needs.drop (h + 1)) i → restF ts N (needs.drop h) (befF ts N needs h) < stepT ts (befF ts N needs h : Int) i + restF ts N (needs.drop (h + 1)) i := by
  rw [drop_at hh] at hr ⊢
  have hr' : 0 ≤ (bstep ts (needs.getD h 0) (restF ts N (needs.drop (h + 1))) (befF ts N needs h : Int) N).2 := hr
  rcases (bstep_ok hs (needs.getD h 0) (restF ts N (needs.drop (h + 1))) (befF ts N needs h : Int) N).none_or with h1 | ⟨h1, j, hj, h2, h3, h4, h5, h6⟩
  · rw [h1] at hr'; exact absurd hr' (by decide)
  · have e : befF ts N needs (h + 1) = j := by show (bstep ts (needs.getD h 0) (restF ts N (needs.drop (h + 1))) (befF ts N needs h : Int) N).1.toNat = j; rw [h2]; simp
    rw [e]
    exact ⟨hj, h2, h3, h4, h5, h6⟩
theorem way_pos {ts : List Blower} (hs : ∀ b s, 0 ≤ stepT ts b s) {N : Nat} {needs : List Int} (h0 : 0 ≤ restF ts N needs 0) : ∀ h, h ≤ needs.length → 0 ≤ restF ts N (needs.drop h) (befF ts N needs h)
  | 0, _ => h0
  | h + 1, hh => (bef_at hs (by omega) (way_pos hs h0 h (by omega))).2.2.2.1
theorem bef_lt {ts : List Blower} (hs : ∀ b s, 0 ≤ stepT ts b s) {N : Nat} (hN : 0 < N) {needs : List Int} (h0 : 0 ≤ restF ts N needs 0) : ∀ h, h ≤ needs.length → befF ts N needs h < N
  | 0, _ => hN
  | h + 1, hh => (bef_at hs (by omega) (way_pos hs h0 h (by omega))).1
def bdR (ts : List Blower) (needs : List Int) : List Int × Int × Int :=
  if (blowersOk ts && needsOk needs) = true then (if restF ts (2 ^ ts.length) needs 0 < 0 then ([], 0, 3) else (outF ts (2 ^ ts.length) needs needs.length, restF ts (2 ^ ts.length) needs 0, 0)) else ([], 0, 1)

/-- the rows of the hours from k on -/
def tabF (ts : List Blower) (N : Nat) (needs : List Int) (k : Nat) : List (List Int) := (List.range (needs.length + 1 - k)).map fun i => rowF ts N (needs.drop (k + i)) N
theorem tabF_len (ts : List Blower) (N : Nat) (needs : List Int) (k : Nat) : (tabF ts N needs k).length = needs.length + 1 - k := by simp [tabF]
theorem tabF_get {ts : List Blower} {N : Nat} {needs : List Int} {k j : Nat} (h : j < (tabF ts N needs k).length) : (tabF ts N needs k)[j] = rowF ts N (needs.drop (k + j)) N := by simp [tabF]
theorem tabF_last (ts : List Blower) (N : Nat) (needs : List Int) : tabF ts N needs needs.length = [List.replicate N 0] := by
  unfold tabF
  rw [show needs.length + 1 - needs.length = 1 by omega]
  have : rowF ts N [] N = List.replicate N 0 := by
    apply List.ext_getElem
    · simp [rowF_len]
    · intro i h1 h2; rw [rowF_get]; simp [restF]
  simp [List.range_succ, this]
theorem tabF_cons {ts : List Blower} {N : Nat} {needs : List Int} {k : Nat} (hk : k < needs.length) : tabF ts N needs k = rowF ts N (needs.drop k) N :: tabF ts N needs (k + 1) := by
  apply List.ext_getElem
  · simp [tabF_len]; omega
  · intro i h1 h2
    rw [tabF_get]
    cases i with
    | zero => simp
    | succ i => simp only [List.getElem_cons_succ]; rw [tabF_get]; congr 2; omega
theorem rest_cons {ts : List Blower} {N : Nat} {needs : List Int} {k : Nat} (hk : k < needs.length) (b : Nat) : restF ts N (needs.drop k) b = (bstep ts needs[k] (restF ts N (needs.drop (k + 1))) (b : Int) N).2 := by
  rw [List.drop_eq_getElem_cons hk]; rfl
/-- a cell of a table -/
theorem tab_cell {W : World} {A : Option Addr} {m c : Nat} {ts : List Blower} {N : Nat} {needs : List Int} {k j : Nat} (h : SlII W (.slice A m c) (tabF ts N needs k)) (hkj : k + j ≤ needs.length) :
    ∃ b o A' c', A = some ⟨b, o, none⟩ ∧ b < W.heap.size ∧ W.cell? ⟨b, o + j, none⟩ = some (.slice A' N c') ∧ ∀ s, s < N → ∃ b' o', A' = some ⟨b', o', none⟩ ∧ b' < W.heap.size ∧ W.cell? ⟨b', o' + s, none⟩ = some (.int .i64 (restF ts N (needs.drop (k + j)) s)) := by
  obtain ⟨A0, c0, hv, _, hc⟩ := h.op
  injection hv with hv _ _
  subst hv
  have hj : j < (tabF ts N needs k).length := by rw [tabF_len]; omega
  obtain ⟨b, o, A', c', hA, hb, hcl, hsl⟩ := hc j hj
  have e := tabF_get hj
  rw [e] at hsl
  simp only [e, rowF_len] at hcl
  rw [rowF_len] at hsl
  refine ⟨b, o, A', c', hA, hb, hcl, fun s hs => ?_⟩
  obtain ⟨A1, c1, hv1, _, hc1⟩ := hsl.op
  injection hv1 with hv1 _ _
  subst hv1
  have hs2 : s < (rowF ts N (needs.drop (k + j)) N).length := by rw [rowF_len]; exact hs
  obtain ⟨b', o', hA', hb', hx⟩ := hc1 s hs2
  have h9 := hx s hs2
  rw [rowF_get] at h9
  exact ⟨b', o', hA', hb', h9⟩
/-- a table of one row -/
theorem slII_lit {w : World} {v : Value} {xs : List Int} {e : TypeId} (h : SlI w v xs) : SlII (w.alloc (.cells #[v] e)) (.slice (some ⟨w.heap.size, 0, none⟩) 1 1) [xs] := by
  refine ⟨[v], ?_, ?_⟩
  · exact Ow.sl (lo := w.heap.size) (e := e) ⟨World.ownsRow_lit w #[v] 1 (Nat.le_refl _) (by unfold maxLen; omega) (by simp), by simp⟩
  · intro i h1 h2
    have : i = 0 := by simpa using h1
    subst this
    exact h.ex (below_alloc _ _)
theorem slII_join {w : World} {A : Option Addr} {m c : Nat} {v : Value} {us : List Value} {xs : List Int} {xss : List (List Int)} (hs : Sl w 1 (.slice A (1 + m) c) (1 + m) ([v] ++ us)) (hm : xss.length = m) (hv : SlI w v xs) (hu : ∀ (i : Nat) (h : i < us.length) (h' : i < xss.length), SlI w us[i] xss[i]) : SlII w (.slice A (1 + m) c) (xs :: xss) := by
  refine ⟨[v] ++ us, ?_, ?_⟩
  · have : (xs :: xss).length = 1 + m := by simp; omega
    rw [this]; exact hs
  · intro i h1 h2
    cases i with
    | zero => exact hv
    | succ i => simpa using hu i (by simpa using h1) (by simpa using h2)
end Go.Proofs.Ytjleabgoajoegaa
