/-
Followers fixed one by one (TracksOf): plain model and laws, no program. pairs_most: the search that leaves fixed rows alone answers as the search in the restricted graph; fol_most, tracks_few: as few tracks as FewestCarriers tells.
-/
import Derived.Test.YtlgeddbgbcineaaKuhn
namespace Go.Proofs.Ytlgeddbgbcineaa
open Go.RowKit
set_option linter.unusedVariables false

/-- the graph in which the first rows are fixed to their followers -/
def ER (E : Nat → Nat → Bool) (fs : List Int) (i b : Nat) : Bool := E i b && (if i < fs.length then decide (iAt fs i = (b : Int)) else !(fs.contains (b : Int)))
/-- the graph behind one more row fixed -/
def woE (E : Nat → Nat → Bool) (a : Nat) (f : Int) (i b : Nat) : Bool := E i b && ((decide (i ≠ a) && decide ((b : Int) ≠ f)) || (decide (i = a) && decide ((b : Int) = f)))
/-- followers of the first rows: each -1 or one that may follow, no one twice -/
structure FsOk (E : Nat → Nat → Bool) (n : Nat) (fs : List Int) : Prop where
  len : fs.length ≤ n
  ed : ∀ i, i < fs.length → iAt fs i = -1 ∨ ∃ b : Nat, b < n ∧ iAt fs i = (b : Int) ∧ E i b = true
  inj : ∀ i j, i < fs.length → j < fs.length → iAt fs i = iAt fs j → 0 ≤ iAt fs i → i = j
theorem iAt_snoc {fs : List Int} {f : Int} (i : Nat) : iAt (fs ++ [f]) i = if i < fs.length then iAt fs i else if i = fs.length then f else 0 := by
  unfold iAt
  rw [List.getD_eq_getElem?_getD, List.getD_eq_getElem?_getD]
  by_cases h : i < fs.length
  · rw [if_pos h, List.getElem?_append_left h]
  · rw [if_neg h, List.getElem?_append_right (by omega)]
    by_cases e : i = fs.length
    · subst e; simp
    · rw [if_neg e]
      have : ∃ d, i - fs.length = d + 1 := ⟨i - fs.length - 1, by omega⟩
      obtain ⟨d, hd⟩ := this
      rw [hd]; simp
theorem iAt_in {fs : List Int} {i : Nat} (h : i < fs.length) : iAt fs i ∈ fs := by rw [iAt_eq h]; exact List.getElem_mem h
theorem in_iAt {fs : List Int} {x : Int} (h : x ∈ fs) : ∃ i, i < fs.length ∧ iAt fs i = x := by
  obtain ⟨i, hi, he⟩ := List.mem_iff_getElem.1 h
  exact ⟨i, hi, by rw [iAt_eq hi]; exact he⟩
theorem FsOk.nil (E : Nat → Nat → Bool) (n : Nat) : FsOk E n [] := ⟨by simp, fun i h => absurd h (by simp), fun i j h => absurd h (by simp)⟩
theorem FsOk.snoc_no {E : Nat → Nat → Bool} {n : Nat} {fs : List Int} (h : FsOk E n fs) (hl : fs.length < n) : FsOk E n (fs ++ [-1]) := by
  refine ⟨by simp; omega, ?_, ?_⟩
  · intro i hi
    rw [iAt_snoc]
    by_cases e : i < fs.length
    · rw [if_pos e]; exact h.ed i e
    · rw [if_neg e, if_pos (by simp at hi; omega)]; exact .inl rfl
  · intro i j hi hj h1 h2
    simp at hi hj
    rw [iAt_snoc] at h1 h2
    rw [iAt_snoc] at h1
    by_cases e : i < fs.length
    · rw [if_pos e] at h1 h2
      by_cases e2 : j < fs.length
      · rw [if_pos e2] at h1; exact h.inj i j e e2 h1 h2
      · rw [if_neg e2, if_pos (by omega)] at h1; omega
    · rw [if_neg e, if_pos (by omega)] at h2; omega
theorem FsOk.snoc {E : Nat → Nat → Bool} {n : Nat} {fs : List Int} (h : FsOk E n fs) (hl : fs.length < n) {b : Nat} (hb : b < n) (he : E fs.length b = true) (hn : (b : Int) ∉ fs) : FsOk E n (fs ++ [(b : Int)]) := by
  refine ⟨by simp; omega, ?_, ?_⟩
  · intro i hi
    rw [iAt_snoc]
    by_cases e : i < fs.length
    · rw [if_pos e]; exact h.ed i e
    · have e2 : i = fs.length := by simp at hi; omega
      rw [if_neg e, if_pos e2]; exact .inr ⟨b, hb, rfl, e2 ▸ he⟩
  · intro i j hi hj h1 h2
    simp at hi hj
    rw [iAt_snoc] at h1 h2
    rw [iAt_snoc] at h1
    by_cases e : i < fs.length
    · rw [if_pos e] at h1 h2
      by_cases e2 : j < fs.length
      · rw [if_pos e2] at h1; exact h.inj i j e e2 h1 h2
      · rw [if_neg e2, if_pos (by omega)] at h1; exact absurd (h1 ▸ iAt_in e) hn
    · by_cases e2 : j < fs.length
      · rw [if_pos e2, if_neg e, if_pos (by omega)] at h1; exact absurd (h1 ▸ iAt_in e2) hn
      · omega
theorem woE_ER {E : Nat → Nat → Bool} {n : Nat} {fs : List Int} {f : Int} (hf : f = -1 ∨ f ∉ fs) (i b : Nat) (hi : i < n) : woE (ER E fs) fs.length f i b = ER E (fs ++ [f]) i b := by
  unfold woE ER
  have hbf : f = (b : Int) → (b : Int) ∉ fs := by
    intro h h2
    rcases hf with h3 | h3
    · omega
    · exact h3 (h ▸ h2)
  rw [iAt_snoc]
  by_cases e : i < fs.length
  · have e1 : i < (fs ++ [f]).length := by simp; omega
    have e2 : i ≠ fs.length := by omega
    rw [if_pos e, if_pos e1, if_pos e]
    by_cases e3 : iAt fs i = (b : Int)
    · have e4 : (b : Int) ≠ f := fun h => hbf h.symm (e3 ▸ iAt_in e)
      simp [e2, e3, e4]
    · simp [e3]
  · rw [if_neg e]
    by_cases e1 : i = fs.length
    · have e2 : i < (fs ++ [f]).length := by simp; omega
      rw [if_pos e2, if_neg e, if_pos e1]
      by_cases e3 : f = (b : Int)
      · have := hbf e3
        have e4 : (b : Int) = f := e3.symm
        simp [e1, e3, this]
      · have e4 : ¬ (b : Int) = f := fun h => e3 h.symm
        simp [e1, e3, e4]
    · have e2 : ¬ i < (fs ++ [f]).length := by simp; omega
      rw [if_neg e2]
      by_cases e3 : (b : Int) = f
      · simp [e1, e3]
      · simp [e1, e3]
theorem ER_nil (E : Nat → Nat → Bool) (i b : Nat) : ER E [] i b = E i b := by simp [ER]
/-! the search depends on the graph below n alone -/
theorem scan_cong {E E' : Nat → Nat → Bool} {fx : Nat → Bool} {n : Nat} {rec rec' : Nat → List Int → List Bool → Bool × List Int × List Bool} (he : ∀ i b, i < n → b < n → E i b = E' i b)
    (hrec : ∀ (r : Nat) (of : List Int) (tr : List Bool), r < n → of.length = n → tr.length = n → Ed E n of → GOut E n r of tr (rec r of tr))
    (hr : ∀ r of tr, r < n → of.length = n → tr.length = n → Ed E n of → rec r of tr = rec' r of tr) (a : Nat) (ha : a < n) : ∀ (j : Nat) (of : List Int) (tr : List Bool), j ≤ n → of.length = n → tr.length = n → Ed E n of → scanK E fx n rec a j of tr = scanK E' fx n rec' a j of tr
  | 0, of, tr, _, _, _, _ => rfl
  | j + 1, of, tr, hj, h1, h2, h3 => by
    have ih := scan_cong (fx := fx) he hrec hr a ha j
    rw [scanK, scanK]
    have hbn : n - (j + 1) < n := by omega
    generalize n - (j + 1) = b at hbn
    rw [← he a b ha hbn, ih of tr (by omega) h1 h2 h3]
    by_cases hc : E a b = false ∨ bAt tr b = true
    · rw [if_pos hc, if_pos hc]
    · rw [if_neg hc, if_neg hc]
      by_cases hneg : iAt of b < 0
      · rw [if_pos hneg, if_pos hneg]
      · rw [if_neg hneg, if_neg hneg]
        have hset : (tr.set b true).length = n := by simp [h2]
        obtain ⟨r, hrn, hrb, hrE⟩ : ∃ r : Nat, r < n ∧ iAt of b = (r : Int) ∧ E r b = true := by
          rcases h3 b hbn with h | h
          · omega
          · exact h
        have hrt : (iAt of b).toNat = r := by omega
        rw [hrt, ← hr r of _ hrn h1 hset h3, ih of _ (by omega) h1 hset h3]
        have g := hrec r of (tr.set b true) hrn h1 hset h3
        rw [ih _ _ (by omega) g.lo g.lt g.ed]
theorem grow_cong {E E' : Nat → Nat → Bool} {fx : Nat → Bool} {n : Nat} (he : ∀ i b, i < n → b < n → E i b = E' i b) : ∀ (fuel a : Nat) (of : List Int) (tr : List Bool), a < n → of.length = n → tr.length = n → Ed E n of → growK E fx n fuel a of tr = growK E' fx n fuel a of tr
  | 0, _, _, _, _, _, _, _ => rfl
  | fuel + 1, a, of, tr, ha, h1, h2, h3 => by
    rw [growK, growK]
    exact scan_cong he (fun r of' tr' hr h1' h2' h3' => grow_out E fx n fuel r of' tr' hr h1' h2' h3') (fun r of' tr' hr h1' h2' h3' => grow_cong he fuel r of' tr' hr h1' h2' h3') a ha n of tr (Nat.le_refl _) h1 h2 h3
theorem run_ed (E : Nat → Nat → Bool) (fx : Nat → Bool) (n s : Nat) (p : List Int × Nat) (h1 : p.1.length = n) (h2 : Ed E n p.1) : ∀ k, s + k ≤ n → (runK E fx n s p k).1.length = n ∧ Ed E n (runK E fx n s p k).1
  | 0, _ => ⟨h1, h2⟩
  | k + 1, hk => by
    obtain ⟨i1, i2⟩ := run_ed E fx n s p h1 h2 k (by omega)
    have g := grow_out E fx n (n + 1) (s + k) _ (List.replicate n false) (by omega) i1 (by simp) i2
    exact ⟨g.lo, g.ed⟩
theorem run_cong {E E' : Nat → Nat → Bool} {fx : Nat → Bool} {n : Nat} (he : ∀ i b, i < n → b < n → E i b = E' i b) (s : Nat) (p : List Int × Nat) (h1 : p.1.length = n) (h2 : Ed E n p.1) : ∀ k, s + k ≤ n → runK E fx n s p k = runK E' fx n s p k
  | 0, _ => rfl
  | k + 1, hk => by
    obtain ⟨i1, i2⟩ := run_ed E fx n s p h1 h2 k (by omega)
    rw [runK, runK, ← run_cong he s p h1 h2 k (by omega)]
    unfold stepK
    rw [grow_cong he (n + 1) (s + k) _ _ (by omega) i1 (by simp) i2]
theorem ed_none (E : Nat → Nat → Bool) (n : Nat) : Ed E n (List.replicate n (-1)) := (Mt.nil E n).toEd (Nat.zero_le _)
theorem most_cong {E E' : Nat → Nat → Bool} {n : Nat} (he : ∀ i b, i < n → b < n → E i b = E' i b) : mostK E n = mostK E' n := by
  unfold mostK; rw [run_cong he 0 _ (by simp) (ed_none E n) n (by omega)]
/-! the first rows of the fixed graph -/
/-- the rows in front of the fixed followers, and how many have one -/
def startK (n : Nat) (fs : List Int) : Nat → List Int × Nat
  | 0 => (List.replicate n (-1), 0)
  | k + 1 => if 0 ≤ iAt fs k then ((startK n fs k).1.set (iAt fs k).toNat (k : Int), (startK n fs k).2 + 1) else startK n fs k
theorem start_len (n : Nat) (fs : List Int) : ∀ k, (startK n fs k).1.length = n
  | 0 => by simp [startK]
  | k + 1 => by
    rw [startK]; split
    · simp [start_len n fs k]
    · exact start_len n fs k
theorem start_at {E : Nat → Nat → Bool} {n : Nat} {fs : List Int} (h : FsOk E n fs) : ∀ k, k ≤ fs.length → ∀ b, b < n → (iAt (startK n fs k).1 b = -1 ∧ ∀ i, i < k → iAt fs i ≠ (b : Int)) ∨ ∃ i, i < k ∧ iAt fs i = (b : Int) ∧ iAt (startK n fs k).1 b = (i : Int)
  | 0, _, b, hb => .inl ⟨by rw [startK, iAt_eq (by simpa using hb)]; simp, fun i hi => by omega⟩
  | k + 1, hk, b, hb => by
    have ih := start_at h k (by omega) b hb
    have hl := start_len n fs k
    rw [startK]
    by_cases h0 : 0 ≤ iAt fs k
    · rw [if_pos h0]
      dsimp only
      obtain ⟨c, hc, hce, hcE⟩ : ∃ c : Nat, c < n ∧ iAt fs k = (c : Int) ∧ E k c = true := by
        rcases h.ed k (by omega) with h1 | h1
        · omega
        · exact h1
      rw [iAt_set (by omega)]
      by_cases e : b = (iAt fs k).toNat
      · rw [if_pos e]; exact .inr ⟨k, by omega, by omega, rfl⟩
      · rw [if_neg e]
        rcases ih with ⟨h1, h2⟩ | ⟨i, h1, h2, h3⟩
        · refine .inl ⟨h1, ?_⟩
          intro i hi
          rcases Nat.lt_or_ge i k with h4 | h4
          · exact h2 i h4
          · have : i = k := by omega
            subst this; omega
        · exact .inr ⟨i, by omega, h2, h3⟩
    · rw [if_neg h0]
      rcases ih with ⟨h1, h2⟩ | ⟨i, h1, h2, h3⟩
      · refine .inl ⟨h1, ?_⟩
        intro i hi
        rcases Nat.lt_or_ge i k with h4 | h4
        · exact h2 i h4
        · have : i = k := by omega
          subst this; omega
      · exact .inr ⟨i, by omega, h2, h3⟩
theorem scan_none {E : Nat → Nat → Bool} {fx : Nat → Bool} {n : Nat} {rec : Nat → List Int → List Bool → Bool × List Int × List Bool} {a : Nat} (h : ∀ b, b < n → E a b = false) : ∀ (j : Nat) (of : List Int) (tr : List Bool), j ≤ n → scanK E fx n rec a j of tr = (false, of, tr)
  | 0, _, _, _ => rfl
  | j + 1, of, tr, hj => by
    rw [scanK, if_pos (.inl (h _ (by omega)))]
    exact scan_none h j of tr (by omega)
theorem scan_one {E : Nat → Nat → Bool} {fx : Nat → Bool} {n : Nat} {rec : Nat → List Int → List Bool → Bool × List Int × List Bool} {a c : Nat} (hc : c < n) (h : ∀ b, b < n → b ≠ c → E a b = false) (hE : E a c = true) : ∀ (j : Nat) (of : List Int) (tr : List Bool), j ≤ n → n - j ≤ c → bAt tr c = false → iAt of c < 0 → scanK E fx n rec a j of tr = (true, of.set c (a : Int), tr.set c true)
  | 0, _, _, _, h1, _, _ => by omega
  | j + 1, of, tr, hj, h1, h2, h3 => by
    rw [scanK]
    by_cases e : n - (j + 1) = c
    · rw [e, if_neg (by rw [hE, h2]; simp), if_pos h3]
    · rw [if_pos (.inl (h _ (by omega) e))]
      exact scan_one hc h hE j of tr (by omega) (by omega) h2 h3
theorem run_start {E : Nat → Nat → Bool} {n : Nat} {fs : List Int} (h : FsOk E n fs) : ∀ k, k ≤ fs.length → runK (ER E fs) noF n 0 (List.replicate n (-1), 0) k = startK n fs k
  | 0, _ => rfl
  | k + 1, hk => by
    have hl := h.len
    have sa := start_at h k (by omega)
    rw [runK, run_start h k (by omega), Nat.zero_add, startK]
    unfold stepK
    rw [growK]
    rcases h.ed k (by omega) with h1 | ⟨c, hc, hce, hcE⟩
    · rw [scan_none (fun b hb => by
        unfold ER; rw [if_pos (by omega), h1]
        have : ¬ (-1 : Int) = (b : Int) := by omega
        simp [this]) n _ _ (Nat.le_refl _)]
      have h9 : ¬ 0 ≤ iAt fs k := by omega
      rw [if_neg h9]
      simp
    · have hne : iAt (startK n fs k).1 c < 0 := by
        rcases sa c hc with ⟨h1, _⟩ | ⟨i, h1, h2, h3⟩
        · omega
        · have := h.inj i k (by omega) (by omega) (h2.trans hce.symm) (by omega); omega
      rw [scan_one (c := c) hc (fun b hb hbc => by
        unfold ER; rw [if_pos (by omega), hce]
        have : ¬ (c : Int) = (b : Int) := by omega
        simp [this]) (by unfold ER; rw [if_pos (by omega), hce, hcE]; simp) n _ _ (Nat.le_refl _) (by omega) (by rw [bAt_eq (by simpa using hc)]; simp) hne]
      have h9 : 0 ≤ iAt fs k := by omega
      rw [if_pos h9, hce]
      simp
/-! the rows behind: a search in the fixed graph goes as one that leaves fixed rows alone -/
structure SimT (fs : List Int) (n : Nat) (t1 t2 : List Bool) : Prop where
  l1 : t1.length = n
  l2 : t2.length = n
  same : ∀ b : Nat, b < n → (b : Int) ∉ fs → bAt t1 b = bAt t2 b
/-- what the rows in front look like -/
structure OfS (fs : List Int) (n : Nat) (of : List Int) : Prop where
  len : of.length = n
  fixd : ∀ b : Nat, b < n → (b : Int) ∈ fs → ∃ i : Nat, i < fs.length ∧ iAt of b = (i : Int)
  free : ∀ b : Nat, b < n → (b : Int) ∉ fs → iAt of b = -1 ∨ ∃ r : Nat, fs.length ≤ r ∧ r < n ∧ iAt of b = (r : Int)
theorem OfS.set {fs : List Int} {n : Nat} {of : List Int} (h : OfS fs n of) {a b : Nat} (hb : b < n) (hn : (b : Int) ∉ fs) (ha : fs.length ≤ a) (han : a < n) : OfS fs n (of.set b (a : Int)) := by
  have hl := h.len
  refine ⟨by simp [hl], ?_, ?_⟩
  · intro c hc hm
    rw [iAt_set (by omega), if_neg (fun e => by subst e; exact hn hm)]
    exact h.fixd c hc hm
  · intro c hc hm
    rw [iAt_set (by omega)]
    by_cases e : c = b
    · rw [if_pos e]; exact .inr ⟨a, ha, han, rfl⟩
    · rw [if_neg e]; exact h.free c hc hm
theorem SimT.set {fs : List Int} {n : Nat} {t1 t2 : List Bool} (h : SimT fs n t1 t2) {b : Nat} (hb : b < n) : SimT fs n (t1.set b true) (t2.set b true) := by
  refine ⟨by simp [h.l1], by simp [h.l2], ?_⟩
  intro c hc hm
  rw [bAt_set (by rw [h.l1]; omega), bAt_set (by rw [h.l2]; omega), h.same c hc hm]
theorem SimT.set2 {fs : List Int} {n : Nat} {t1 t2 : List Bool} (h : SimT fs n t1 t2) {b : Nat} (hb : b < n) (hm : (b : Int) ∈ fs) : SimT fs n t1 (t2.set b true) := by
  refine ⟨h.l1, by simp [h.l2], ?_⟩
  intro c hc hcm
  rw [bAt_set (by rw [h.l2]; omega), if_neg (fun e => by subst e; exact hcm hm), h.same c hc hcm]
structure SimR (fs : List Int) (n : Nat) (q1 q2 : Bool × List Int × List Bool) : Prop where
  b : q1.1 = q2.1
  of : q1.2.1 = q2.2.1
  ok : OfS fs n q1.2.1
  t : SimT fs n q1.2.2 q2.2.2
def fxK (k : Nat) : Nat → Bool := fun i => decide (i < k)
theorem scan_sim {E : Nat → Nat → Bool} {n : Nat} {fs : List Int} {rec1 rec2 : Nat → List Int → List Bool → Bool × List Int × List Bool}
    (hrec : ∀ r of t1 t2, fs.length ≤ r → r < n → OfS fs n of → SimT fs n t1 t2 → SimR fs n (rec1 r of t1) (rec2 r of t2)) (a : Nat) (ha : fs.length ≤ a) (han : a < n) :
    ∀ (j : Nat) (of : List Int) (t1 t2 : List Bool), j ≤ n → OfS fs n of → SimT fs n t1 t2 → SimR fs n (scanK (ER E fs) noF n rec1 a j of t1) (scanK E (fxK fs.length) n rec2 a j of t2)
  | 0, of, t1, t2, _, h1, h2 => ⟨rfl, rfl, h1, h2⟩
  | j + 1, of, t1, t2, hj, h1, h2 => by
    have ih := scan_sim (E := E) hrec a ha han j
    rw [scanK, scanK]
    have hbn : n - (j + 1) < n := by omega
    generalize n - (j + 1) = b at hbn
    by_cases hm : (b : Int) ∈ fs
    · have hE : ER E fs a b = false := by
        unfold ER; rw [if_neg (by omega)]; simp [hm]
      rw [if_pos (.inl hE)]
      obtain ⟨i, hi, hib⟩ := h1.fixd b hbn hm
      by_cases hc : E a b = false ∨ bAt t2 b = true
      · rw [if_pos hc]; exact ih of t1 t2 (by omega) h1 h2
      · rw [if_neg hc, if_neg (by omega), if_pos (by unfold fxK; simp; omega)]
        exact ih of t1 _ (by omega) h1 (h2.set2 hbn hm)
    · have hE : ER E fs a b = E a b := by
        unfold ER; rw [if_neg (by omega)]; simp [hm]
      rw [hE, h2.same b hbn hm]
      by_cases hc : E a b = false ∨ bAt t2 b = true
      · rw [if_pos hc, if_pos hc]; exact ih of t1 t2 (by omega) h1 h2
      · rw [if_neg hc, if_neg hc]
        rcases h1.free b hbn hm with hf | ⟨r, hr, hrn, hrb⟩
        · rw [if_pos (by omega), if_pos (by omega)]
          exact ⟨rfl, rfl, h1.set hbn hm ha han, h2.set hbn⟩
        · have hneg : ¬ iAt of b < 0 := by omega
          have hnf : ¬ noF (iAt of b).toNat = true := by simp [noF]
          have hfx : ¬ fxK fs.length (iAt of b).toNat = true := by unfold fxK; simp; omega
          rw [if_neg hneg, if_neg hneg, if_neg hnf, if_neg hfx]
          have hrt : (iAt of b).toNat = r := by omega
          rw [hrt]
          have s := hrec r of (t1.set b true) (t2.set b true) hr hrn h1 (h2.set hbn)
          generalize rec1 r of (t1.set b true) = q1 at s
          generalize rec2 r of (t2.set b true) = q2 at s
          obtain ⟨p1, p2, p3⟩ := q1
          obtain ⟨r1, r2, r3⟩ := q2
          obtain ⟨s1, s2, s3, s4⟩ := s
          dsimp only at s1 s2 s3 s4 ⊢
          subst s1 s2
          by_cases hp : p1 = true
          · rw [if_pos hp, if_pos hp]
            exact ⟨rfl, rfl, s3.set hbn hm ha han, s4⟩
          · rw [if_neg hp, if_neg hp]
            exact ih p2 p3 r3 (by omega) s3 s4
theorem grow_sim {E : Nat → Nat → Bool} {n : Nat} {fs : List Int} : ∀ (fuel a : Nat) (of : List Int) (t1 t2 : List Bool), fs.length ≤ a → a < n → OfS fs n of → SimT fs n t1 t2 → SimR fs n (growK (ER E fs) noF n fuel a of t1) (growK E (fxK fs.length) n fuel a of t2)
  | 0, _, _, _, _, _, _, h1, h2 => ⟨rfl, rfl, h1, h2⟩
  | fuel + 1, a, of, t1, t2, ha, han, h1, h2 => by
    rw [growK, growK]
    exact scan_sim (fun r of' t1' t2' hr hrn h1' h2' => grow_sim fuel r of' t1' t2' hr hrn h1' h2') a ha han n of t1 t2 (Nat.le_refl _) h1 h2
theorem run_sim {E : Nat → Nat → Bool} {n : Nat} {fs : List Int} (p : List Int × Nat) (h : OfS fs n p.1) : ∀ k, fs.length + k ≤ n → runK (ER E fs) noF n fs.length p k = runK E (fxK fs.length) n fs.length p k ∧ OfS fs n (runK (ER E fs) noF n fs.length p k).1
  | 0, _ => ⟨rfl, h⟩
  | k + 1, hk => by
    obtain ⟨i1, i2⟩ := run_sim (E := E) p h k (by omega)
    rw [runK, runK, ← i1]
    unfold stepK
    have s := grow_sim (E := E) (n + 1) (fs.length + k) _ (List.replicate n false) (List.replicate n false) (by omega) (by omega) i2 ⟨by simp, by simp, fun _ _ _ => rfl⟩
    refine ⟨?_, s.ok⟩
    rw [s.b, s.of]
theorem start_ofs {E : Nat → Nat → Bool} {n : Nat} {fs : List Int} (h : FsOk E n fs) : OfS fs n (startK n fs fs.length).1 := by
  refine ⟨start_len n fs _, ?_, ?_⟩
  · intro b hb hm
    rcases start_at h fs.length (Nat.le_refl _) b hb with ⟨_, h2⟩ | ⟨i, h1, h2, h3⟩
    · obtain ⟨i, hi, he⟩ := in_iAt hm
      exact absurd he (h2 i hi)
    · exact ⟨i, h1, h3⟩
  · intro b hb hm
    rcases start_at h fs.length (Nat.le_refl _) b hb with ⟨h1, _⟩ | ⟨i, h1, h2, h3⟩
    · exact .inl h1
    · exact absurd (h2 ▸ iAt_in h1) hm
theorem run_add (E : Nat → Nat → Bool) (fx : Nat → Bool) (n s : Nat) (p : List Int × Nat) (j : Nat) : ∀ k, runK E fx n s p (j + k) = runK E fx n (s + j) (runK E fx n s p j) k
  | 0 => rfl
  | k + 1 => by rw [← Nat.add_assoc, runK, runK, run_add E fx n s p j k, Nat.add_assoc]
/-- the greatest number of pairs where some rows are fixed -/
def pairsK (E : Nat → Nat → Bool) (n : Nat) (fs : List Int) : Nat := (runK E (fxK fs.length) n fs.length (startK n fs fs.length) (n - fs.length)).2
theorem pairs_most {E : Nat → Nat → Bool} {n : Nat} {fs : List Int} (h : FsOk E n fs) : pairsK E n fs = mostK (ER E fs) n := by
  have hl := h.len
  have e : n = fs.length + (n - fs.length) := by omega
  unfold pairsK mostK
  have h1 := run_add (ER E fs) noF n 0 (List.replicate n (-1), 0) fs.length (n - fs.length)
  rw [← e, Nat.zero_add, run_start h _ (Nat.le_refl _)] at h1
  rw [h1, ← (run_sim _ (start_ofs h) (n - fs.length) (by omega)).1]
theorem pairs_nil (E : Nat → Nat → Bool) (n : Nat) : pairsK E n [] = mostK E n := by
  rw [pairs_most (FsOk.nil E n)]; exact most_cong (fun i b _ _ => ER_nil E i b)
def firstK (t : Nat → Bool) (n : Nat) : Nat → Int
  | 0 => -1
  | j + 1 => if t (n - (j + 1)) = true then ((n - (j + 1) : Nat) : Int) else firstK t n j
theorem first_is (t : Nat → Bool) (n : Nat) : ∀ j, j ≤ n → (firstK t n j = -1 ∧ ∀ b, n - j ≤ b → b < n → t b = false) ∨ ∃ b : Nat, b < n ∧ firstK t n j = (b : Int) ∧ t b = true
  | 0, _ => .inl ⟨rfl, fun b h1 h2 => by omega⟩
  | j + 1, hj => by
    rw [firstK]
    by_cases h : t (n - (j + 1)) = true
    · rw [if_pos h]; exact .inr ⟨_, by omega, rfl, h⟩
    · rw [if_neg h]
      rcases first_is t n j (by omega) with ⟨h1, h2⟩ | h1
      · refine .inl ⟨h1, ?_⟩
        intro b hb1 hb2
        by_cases e : b = n - (j + 1)
        · rw [e]; simpa using h
        · exact h2 b (by omega) hb2
      · exact .inr h1
def testK (E : Nat → Nat → Bool) (n : Nat) (fs : List Int) (b : Nat) : Bool := E fs.length b && !(fs.contains (b : Int)) && decide (mostK (ER E (fs ++ [(b : Int)])) n = mostK E n)
/-- the followers of the first rows -/
def folK (E : Nat → Nat → Bool) (n : Nat) : Nat → List Int
  | 0 => []
  | k + 1 => folK E n k ++ [firstK (testK E n (folK E n k)) n n]
theorem fol_len (E : Nat → Nat → Bool) (n : Nat) : ∀ k, (folK E n k).length = k
  | 0 => rfl
  | k + 1 => by rw [folK]; simp [fol_len E n k]
theorem fol_ok (E : Nat → Nat → Bool) (n : Nat) : ∀ k, k ≤ n → FsOk E n (folK E n k)
  | 0, _ => FsOk.nil E n
  | k + 1, hk => by
    have ih := fol_ok E n k (by omega)
    have hl := fol_len E n k
    rw [folK]
    rcases first_is (testK E n (folK E n k)) n n (Nat.le_refl n) with ⟨h1, _⟩ | ⟨b, hb, h1, h2⟩
    · rw [h1]; exact ih.snoc_no (by omega)
    · rw [h1]
      unfold testK at h2
      simp only [Bool.and_eq_true, Bool.not_eq_true', decide_eq_true_eq] at h2
      exact ih.snoc (by omega) hb h2.1.1 (by simpa using h2.1.2)
theorem Mt.mono {E E' : Nat → Nat → Bool} {n k : Nat} {N : List Int} (h : Mt E n k N) (he : ∀ i b, i < n → b < n → iAt N b = (i : Int) → E i b = true → E' i b = true) (hk : k ≤ n) : Mt E' n k N :=
  ⟨h.len, fun b hb => (h.ed b hb).imp id (fun ⟨r, h1, h2, h3⟩ => ⟨r, h1, h2, he r b (by omega) hb h2 h3⟩), h.inj⟩
theorem most_mono {E E' : Nat → Nat → Bool} {n : Nat} (he : ∀ i b, i < n → b < n → E i b = true → E' i b = true) : mostK E n ≤ mostK E' n := by
  obtain ⟨M, h1, h2⟩ := most_has E n
  rw [← h2]
  exact most_max E' n (h1.mono (fun i b hi hb _ h => he i b hi hb h) (Nat.le_refl n))
theorem ER_sub {E : Nat → Nat → Bool} {fs : List Int} {i b : Nat} (h : ER E fs i b = true) : E i b = true := by
  unfold ER at h; simp only [Bool.and_eq_true] at h; exact h.1
theorem fol_most (E : Nat → Nat → Bool) (n : Nat) : ∀ k, k ≤ n → mostK (ER E (folK E n k)) n = mostK E n
  | 0, _ => most_cong (fun i b _ _ => ER_nil E i b)
  | k + 1, hk => by
    have ih := fol_most E n k (by omega)
    have hl := fol_len E n k
    have hok := fol_ok E n k (by omega)
    rw [folK]
    rcases first_is (testK E n (folK E n k)) n n (Nat.le_refl n) with ⟨h1, h2⟩ | ⟨b, hb, h1, h2⟩
    · rw [h1]
      generalize folK E n k = fs at *
      subst hl
      refine Nat.le_antisymm (most_mono (fun i b _ _ h => ER_sub h)) ?_
      obtain ⟨M, m1, m2⟩ := most_has (ER E fs) n
      have key : ∀ f : Int, (f = -1 ∨ f ∉ fs) → (∀ b : Nat, b < n → iAt M b = (fs.length : Int) → f = (b : Int)) → (∀ b : Nat, b < n → f = (b : Int) → iAt M b = (fs.length : Int)) → mostK E n ≤ mostK (ER E (fs ++ [f])) n := by
        intro f hf g1 g2
        rw [← ih, ← m2]
        refine most_max _ n (m1.mono ?_ (Nat.le_refl n))
        intro i b hi hb hM he
        rw [← woE_ER hf i b hi]
        unfold woE
        rw [he]
        by_cases e : i = fs.length
        · subst e
          have := (g1 b hb hM).symm
          simp [this]
        · have h9 : (b : Int) ≠ f := by
            intro h9
            have := g2 b hb h9.symm
            omega
          simp [e, h9]
      by_cases hx : ∃ b, b < n ∧ iAt M b = (fs.length : Int)
      · exfalso
        obtain ⟨b, hb, hbM⟩ := hx
        have hE : ER E fs fs.length b = true := by
          rcases m1.ed b hb with h3 | ⟨r, h3, h4, h5⟩
          · omega
          · have : r = fs.length := by omega
            subst this; exact h5
        have hE1 := ER_sub hE
        have hE2 : (b : Int) ∉ fs := by
          unfold ER at hE
          rw [if_neg (by omega)] at hE
          simp only [Bool.and_eq_true, Bool.not_eq_true'] at hE
          simpa using hE.2
        have h3 := key (b : Int) (.inr hE2) (fun c hc h => by
          have := m1.inj b c hb hc (hbM.trans h.symm) (by omega)
          omega) (fun c hc h => by
          have : b = c := by omega
          subst this; exact hbM)
        have h4 : mostK (ER E (fs ++ [(b : Int)])) n ≤ mostK E n := most_mono (fun i b _ _ h => ER_sub h)
        have h5 := h2 b (by omega) hb
        unfold testK at h5
        rw [hE1] at h5
        have h6 : mostK (ER E (fs ++ [(b : Int)])) n = mostK E n := by omega
        simp [h6, hE2] at h5
      · exact key (-1) (.inl rfl) (fun b hb h => absurd ⟨b, hb, h⟩ hx) (fun b hb h => by omega)
    · rw [h1]
      unfold testK at h2
      simp only [Bool.and_eq_true, Bool.not_eq_true', decide_eq_true_eq] at h2
      exact h2.2
theorem start_pos {E : Nat → Nat → Bool} {n : Nat} {fs : List Int} (h : FsOk E n fs) : ∀ k, k ≤ fs.length → posN (startK n fs k).1 = (startK n fs k).2
  | 0, _ => by simp [startK, posN, List.countP_replicate]
  | k + 1, hk => by
    have ih := start_pos h k (by omega)
    have sa := start_at h k (by omega)
    have hl := start_len n fs k
    rw [startK]
    by_cases h0 : 0 ≤ iAt fs k
    · rw [if_pos h0]
      dsimp only
      obtain ⟨c, hc, hce, hcE⟩ : ∃ c : Nat, c < n ∧ iAt fs k = (c : Int) ∧ E k c = true := by
        rcases h.ed k (by omega) with h1 | h1
        · omega
        · exact h1
      have hne : iAt (startK n fs k).1 c < 0 := by
        rcases sa c hc with ⟨h1, _⟩ | ⟨i, h1, h2, h3⟩
        · omega
        · have := h.inj i k (by omega) (by omega) (h2.trans hce.symm) (by omega); omega
      have hct : (iAt fs k).toNat = c := by omega
      rw [hct, posN_set (by omega) _ (by omega), if_neg (by omega), ih]
    · rw [if_neg h0]; exact ih
/-- how many are followers of some row -/
theorem start_in {E : Nat → Nat → Bool} {n : Nat} {fs : List Int} (h : FsOk E n fs) : (startK n fs fs.length).2 = (List.range n).countP (fun b : Nat => fs.contains (b : Int)) := by
  rw [← start_pos h _ (Nat.le_refl _), posN_range (start_len n fs _)]
  refine List.countP_congr ?_
  intro b hb
  have hbn := List.mem_range.1 hb
  rcases start_at h fs.length (Nat.le_refl _) b hbn with ⟨h1, h2⟩ | ⟨i, h1, h2, h3⟩
  · have : (b : Int) ∉ fs := fun hm => by obtain ⟨i, hi, he⟩ := in_iAt hm; exact h2 i hi he
    simp [h1, this]
  · have : (b : Int) ∈ fs := h2 ▸ iAt_in h1
    simp [h3, this]
theorem all_fixed {E : Nat → Nat → Bool} {n : Nat} {fs : List Int} (h : FsOk E n fs) (hl : fs.length = n) : mostK (ER E fs) n = (List.range n).countP (fun b : Nat => fs.contains (b : Int)) := by
  rw [← pairs_most h, ← start_in h]
  unfold pairsK
  rw [hl, Nat.sub_self]
  rfl
/-! the tracks -/
def chT (fs : List Int) : Nat → Int → List Int
  | 0, _ => []
  | f + 1, at_ => if at_ < 0 then [] else at_ :: chT fs f (iAt fs at_.toNat)
/-- the readings from one on, each the follower of the one in front -/
def chn (fs : List Int) (at_ : Int) : List Int := chT fs 9 at_
/-- the tracks: from each reading that is no follower -/
def trK (fs : List Int) : Nat → List (List Int)
  | 0 => []
  | k + 1 => if fs.contains (k : Int) = true then trK fs k else trK fs k ++ [chn fs (k : Int)]
/-- followers rise -/
def Rise (lv : Nat → Nat) (n : Nat) (fs : List Int) : Prop := ∀ i, i < n → lv i ≤ 7 ∧ (iAt fs i = -1 ∨ ∃ b : Nat, b < n ∧ iAt fs i = (b : Int) ∧ lv b = lv i + 1)
theorem chT_neg (fs : List Int) (f : Nat) {x : Int} (h : x < 0) : chT fs f x = [] := by
  cases f with
  | zero => rfl
  | succ f => rw [chT, if_pos h]
theorem chT_more {lv : Nat → Nat} {n : Nat} {fs : List Int} (h : Rise lv n fs) : ∀ (f i : Nat), i < n → 8 - lv i ≤ f → chT fs f (i : Int) = chT fs (f + 1) (i : Int)
  | 0, i, hi, hf => by have := (h i hi).1; omega
  | f + 1, i, hi, hf => by
    rw [chT, chT, if_neg (by omega), if_neg (by omega)]
    congr 1
    have e : ((i : Int)).toNat = i := by omega
    rw [e]
    rcases (h i hi).2 with h1 | ⟨b, hb, h1, h2⟩
    · rw [chT_neg fs f (by omega), chT_neg fs (f + 1) (by omega)]
    · rw [h1]; exact chT_more h f b hb (by omega)
theorem chn_neg (fs : List Int) {x : Int} (h : x < 0) : chn fs x = [] := chT_neg fs 9 h
theorem chn_pos {lv : Nat → Nat} {n : Nat} {fs : List Int} (h : Rise lv n fs) {i : Nat} (hi : i < n) : chn fs (i : Int) = (i : Int) :: chn fs (iAt fs i) := by
  unfold chn
  rw [chT, if_neg (by omega)]
  have e : ((i : Int)).toNat = i := by omega
  rw [e]
  congr 1
  rcases (h i hi).2 with h1 | ⟨b, hb, h1, h2⟩
  · rw [chT_neg fs 8 (by omega), chT_neg fs 9 (by omega)]
  · rw [h1]; exact chT_more h 8 b hb (by omega)
theorem chn_len {fs : List Int} {x : Int} : (chn fs x).length ≤ 9 := by
  have : ∀ f x, (chT fs f x).length ≤ f := by
    intro f
    induction f with
    | zero => intro x; simp [chT]
    | succ f ih => intro x; rw [chT]; split
                   · simp
                   · simp; exact ih _
  exact this 9 x
theorem trK_len (fs : List Int) : ∀ k, (trK fs k).length + (List.range k).countP (fun b : Nat => fs.contains (b : Int)) = k
  | 0 => by simp [trK]
  | k + 1 => by
    have ih := trK_len fs k
    rw [trK, List.range_succ, List.countP_append]
    by_cases h : fs.contains (k : Int) = true
    · rw [if_pos h]; simp only [List.countP_singleton, h, if_true]; omega
    · rw [if_neg h]
      have h' : fs.contains (k : Int) = false := by simpa using h
      simp only [List.countP_singleton, h', List.length_append, List.length_singleton, Bool.false_eq_true, if_false]; omega
/-- as few tracks as readings without a follower -/
theorem tracks_few (E : Nat → Nat → Bool) (n : Nat) : (trK (folK E n n) n).length + mostK E n = n := by
  have h1 := all_fixed (fol_ok E n n (Nat.le_refl n)) (fol_len E n n)
  rw [fol_most E n n (Nat.le_refl n)] at h1
  rw [h1]; exact trK_len _ n
end Go.Proofs.Ytlgeddbgbcineaa
