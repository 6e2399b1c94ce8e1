/-
The search for followers (a matching by Kuhn's way): plain model and laws, no program. run_max: what it finds is a greatest matching.
-/
import Derived.Test.YtlgeddbgbcineaaTrk
namespace Go.Proofs.Ytlgeddbgbcineaa
open Go.RowKit
set_option linter.unusedVariables false

def iAt (l : List Int) (b : Nat) : Int := l.getD b 0
def bAt (l : List Bool) (b : Nat) : Bool := l.getD b true
def scanK (E : Nat → Nat → Bool) (fx : Nat → Bool) (n : Nat) (rec : Nat → List Int → List Bool → Bool × List Int × List Bool) (a : Nat) : Nat → List Int → List Bool → Bool × List Int × List Bool
  | 0, of, tr => (false, of, tr)
  | j + 1, of, tr =>
    if E a (n - (j + 1)) = false ∨ bAt tr (n - (j + 1)) = true then scanK E fx n rec a j of tr
    else if iAt of (n - (j + 1)) < 0 then (true, of.set (n - (j + 1)) (a : Int), tr.set (n - (j + 1)) true)
    else if fx (iAt of (n - (j + 1))).toNat = true then scanK E fx n rec a j of (tr.set (n - (j + 1)) true)
    else if (rec (iAt of (n - (j + 1))).toNat of (tr.set (n - (j + 1)) true)).1 = true then (true, (rec (iAt of (n - (j + 1))).toNat of (tr.set (n - (j + 1)) true)).2.1.set (n - (j + 1)) (a : Int), (rec (iAt of (n - (j + 1))).toNat of (tr.set (n - (j + 1)) true)).2.2)
    else scanK E fx n rec a j (rec (iAt of (n - (j + 1))).toNat of (tr.set (n - (j + 1)) true)).2.1 (rec (iAt of (n - (j + 1))).toNat of (tr.set (n - (j + 1)) true)).2.2
def growK (E : Nat → Nat → Bool) (fx : Nat → Bool) (n : Nat) : Nat → Nat → List Int → List Bool → Bool × List Int × List Bool
  | 0, _, of, tr => (false, of, tr)
  | fuel + 1, a, of, tr => scanK E fx n (growK E fx n fuel) a n of tr

theorem iAt_set {l : List Int} {b c : Nat} {x : Int} (h : b < l.length) : iAt (l.set b x) c = if c = b then x else iAt l c := by
  unfold iAt
  rw [List.getD_eq_getElem?_getD, List.getD_eq_getElem?_getD, List.getElem?_set]
  by_cases e : b = c
  · subst e; simp [h]
  · rw [if_neg e, if_neg (fun h => e h.symm)]
theorem bAt_set {l : List Bool} {b c : Nat} (h : b < l.length) : bAt (l.set b true) c = if c = b then true else bAt l c := by
  unfold bAt
  rw [List.getD_eq_getElem?_getD, List.getD_eq_getElem?_getD, List.getElem?_set]
  by_cases e : b = c
  · subst e; simp [h]
  · rw [if_neg e, if_neg (fun h => e h.symm)]
theorem iAt_eq {l : List Int} {b : Nat} (h : b < l.length) : iAt l b = l[b] := by simp [iAt, List.getD_eq_getElem?_getD, h]
theorem bAt_eq {l : List Bool} {b : Nat} (h : b < l.length) : bAt l b = l[b] := by simp [bAt, List.getD_eq_getElem?_getD, h]
/-- the places not tried yet -/
def untr (tr : List Bool) : Nat := tr.count false
theorem untr_set {tr : List Bool} {b : Nat} (h : b < tr.length) (h0 : bAt tr b = false) : untr (tr.set b true) + 1 = untr tr := by
  unfold untr
  rw [bAt_eq h] at h0
  have h1 : 0 < tr.count false := List.count_pos_iff.2 (h0 ▸ List.getElem_mem h)
  rw [List.count_set h, h0]; simp; omega
theorem untr_set_le {tr : List Bool} {b : Nat} (h : b < tr.length) : untr (tr.set b true) ≤ untr tr := by
  unfold untr
  rw [List.count_set h]; simp
/-- every row has at most one follower, and followers are such -/
def Ed (E : Nat → Nat → Bool) (n : Nat) (of : List Int) : Prop := ∀ b, b < n → iAt of b = -1 ∨ ∃ r : Nat, r < n ∧ iAt of b = (r : Int) ∧ E r b = true
def posN (of : List Int) : Nat := of.countP (fun x => decide (0 ≤ x))
/-- what holds of every search -/
structure GOut (E : Nat → Nat → Bool) (n a : Nat) (of : List Int) (tr : List Bool) (q : Bool × List Int × List Bool) : Prop where
  lo : q.2.1.length = n
  lt : q.2.2.length = n
  mono : ∀ b, bAt tr b = true → bAt q.2.2 b = true
  un : untr q.2.2 ≤ untr tr
  keep : ∀ b, bAt tr b = true → iAt q.2.1 b = iAt of b
  ed : Ed E n q.2.1
  no : q.1 = false → q.2.1 = of
  cnt : q.1 = true → ∀ x : Int, 0 ≤ x → q.2.1.count x = of.count x + (if x = (a : Int) then 1 else 0)
  siz : q.1 = true → posN q.2.1 = posN of + 1
theorem posN_set {of : List Int} {b : Nat} (h : b < of.length) (x : Int) (hx : 0 ≤ x) : posN (of.set b x) = posN of + (if 0 ≤ iAt of b then 0 else 1) := by
  have hp : 0 ≤ iAt of b → 0 < posN of := by
    intro h1
    rw [iAt_eq h] at h1
    exact List.countP_pos_iff.2 ⟨of[b], List.getElem_mem h, by simpa using h1⟩
  unfold posN at *
  rw [List.countP_set h]
  rw [iAt_eq h] at *
  by_cases h1 : 0 ≤ of[b]
  · have := hp h1
    simp [h1, hx]; omega
  · simp [h1, hx]
theorem count_setI {of : List Int} {b : Nat} (h : b < of.length) (x y : Int) : (of.set b x).count y + (if iAt of b = y then 1 else 0) = of.count y + (if y = x then 1 else 0) := by
  have hp : iAt of b = y → 0 < of.count y := by
    intro h1
    rw [iAt_eq h] at h1
    exact List.count_pos_iff.2 (h1 ▸ List.getElem_mem h)
  rw [List.count_set h]
  rw [iAt_eq h] at *
  by_cases h1 : of[b] = y <;> by_cases h2 : x = y
  · have := hp h1; simp [h1, h2]; omega
  · have := hp h1; have h3 : ¬ y = x := fun e => h2 e.symm; simp [h1, h2, h3]; omega
  · simp [h1, h2]
  · have h3 : ¬ y = x := fun e => h2 e.symm; simp [h1, h2, h3]
theorem Ed.set {E : Nat → Nat → Bool} {n : Nat} {of : List Int} (h : Ed E n of) (hl : of.length = n) {a b : Nat} (ha : a < n) (hb : b < n) (he : E a b = true) : Ed E n (of.set b (a : Int)) := by
  intro c hc
  rw [iAt_set (by omega)]
  by_cases e : c = b
  · subst e; rw [if_pos rfl]; exact .inr ⟨a, ha, rfl, he⟩
  · rw [if_neg e]; exact h c hc
theorem scan_out (E : Nat → Nat → Bool) (fx : Nat → Bool) (n : Nat) (rec : Nat → List Int → List Bool → Bool × List Int × List Bool)
    (hrec : ∀ (r : Nat) (of : List Int) (tr : List Bool), r < n → of.length = n → tr.length = n → Ed E n of → GOut E n r of tr (rec r of tr)) (a : Nat) (ha : a < n) :
    ∀ (j : Nat) (of : List Int) (tr : List Bool), j ≤ n → of.length = n → tr.length = n → Ed E n of → GOut E n a of tr (scanK E fx n rec a j of tr)
  | 0, of, tr, _, h1, h2, h3 => by
    rw [scanK]
    exact ⟨h1, h2, fun _ h => h, Nat.le_refl _, fun _ _ => rfl, h3, fun _ => rfl, fun h => absurd h (by simp), fun h => absurd h (by simp)⟩
  | j + 1, of, tr, hj, h1, h2, h3 => by
    have ih := scan_out E fx n rec hrec a ha j
    rw [scanK]
    obtain ⟨b, hb⟩ : ∃ b, b = n - (j + 1) := ⟨_, rfl⟩
    rw [← hb]
    have hbn : b < n := by omega
    split
    · exact ih of tr (by omega) h1 h2 h3
    · rename_i hc
      have hE : E a b = true := by cases h : E a b with | true => rfl | false => exact absurd (.inl h) hc
      have ht : bAt tr b = false := by cases h : bAt tr b with | false => rfl | true => exact absurd (.inr h) hc
      have hm : ∀ c, bAt tr c = true → bAt (tr.set b true) c = true := by
        intro c h; rw [bAt_set (by omega)]; split <;> simp_all
      have hne : ∀ c, bAt tr c = true → c ≠ b := by intro c h e; subst e; rw [h] at ht; cases ht
      split
      · rename_i hneg
        refine ⟨by simp [h1], by simp [h2], hm, untr_set_le (by omega), ?_, h3.set h1 ha hbn hE, fun h => absurd h (by simp), ?_, ?_⟩
        · intro c h; show iAt (of.set b _) c = _; rw [iAt_set (by omega), if_neg (hne c h)]
        · intro _ x hx
          have := count_setI (of := of) (b := b) (by omega) (a : Int) x
          have h9 : ¬ iAt of b = x := by omega
          rw [if_neg h9] at this
          exact this
        · intro _
          show posN (of.set b _) = _
          rw [posN_set (by omega) _ (by omega), if_neg (by omega)]
      · rename_i hpos
        have hset : (tr.set b true).length = n := by simp [h2]
        split
        · have g := ih of (tr.set b true) (by omega) h1 hset h3
          exact ⟨g.lo, g.lt, fun c h => g.mono c (hm c h), Nat.le_trans g.un (untr_set_le (by omega)), fun c h => g.keep c (hm c h), g.ed, g.no, g.cnt, g.siz⟩
        · obtain ⟨r, hr, hrb, hrE⟩ : ∃ r : Nat, r < n ∧ iAt of b = (r : Int) ∧ E r b = true := by
            rcases h3 b hbn with h | h
            · omega
            · exact h
          have hrt : (iAt of b).toNat = r := by omega
          rw [hrt]
          have g := hrec r of (tr.set b true) hr h1 hset h3
          generalize rec r of (tr.set b true) = q at g
          obtain ⟨q1, q2, q3⟩ := q
          have hself : bAt (tr.set b true) b = true := by rw [bAt_set (by omega), if_pos rfl]
          have hkb : iAt q2 b = (r : Int) := by have := g.keep b hself; rw [hrb] at this; exact this
          have hl2 : q2.length = n := g.lo
          split
          · rename_i hq
            dsimp only at hq
            subst hq
            refine ⟨by simp [hl2], g.lt, fun c h => g.mono c (hm c h), Nat.le_trans g.un (untr_set_le (by omega)), ?_, g.ed.set g.lo ha hbn hE, fun h => absurd h (by simp), ?_, ?_⟩
            · intro c h; show iAt (q2.set b _) c = _; rw [iAt_set (by omega), if_neg (hne c h)]; exact g.keep c (hm c h)
            · intro _ x hx
              have h4 := count_setI (of := q2) (b := b) (by omega) (a : Int) x
              have h5 : q2.count x = of.count x + (if x = (r : Int) then 1 else 0) := g.cnt rfl x hx
              rw [hkb] at h4
              show (q2.set b _).count x = _
              by_cases e : (r : Int) = x
              · rw [if_pos e] at h4; rw [if_pos e.symm] at h5; omega
              · rw [if_neg e] at h4; rw [if_neg (fun h => e h.symm)] at h5; omega
            · intro _
              show posN (q2.set b _) = _
              rw [posN_set (by omega) _ (by omega), if_pos (by omega)]
              have h5 : posN q2 = posN of + 1 := g.siz rfl
              omega
          · rename_i hq
            have hq' : q1 = false := by simpa using hq
            subst hq'
            have e : q2 = of := g.no rfl
            subst e
            have g2 := ih q2 q3 (by omega) h1 g.lt g.ed
            exact ⟨g2.lo, g2.lt, fun c h => g2.mono c (g.mono c (hm c h)), Nat.le_trans g2.un (Nat.le_trans g.un (untr_set_le (by omega))), fun c h => g2.keep c (g.mono c (hm c h)), g2.ed, g2.no, g2.cnt, g2.siz⟩
theorem grow_out (E : Nat → Nat → Bool) (fx : Nat → Bool) (n : Nat) : ∀ (fuel : Nat) (a : Nat) (of : List Int) (tr : List Bool), a < n → of.length = n → tr.length = n → Ed E n of → GOut E n a of tr (growK E fx n fuel a of tr)
  | 0, a, of, tr, ha, h1, h2, h3 => by
    rw [growK]
    exact ⟨h1, h2, fun _ h => h, Nat.le_refl _, fun _ _ => rfl, h3, fun _ => rfl, fun h => absurd h (by simp), fun h => absurd h (by simp)⟩
  | fuel + 1, a, of, tr, ha, h1, h2, h3 => by
    rw [growK]
    exact scan_out E fx n _ (fun r of' tr' hr h1' h2' h3' => grow_out E fx n fuel r of' tr' hr h1' h2' h3') a ha n of tr (Nat.le_refl _) h1 h2 h3
/-- a search that failed: what it tried is closed -/
structure Shut (E : Nat → Nat → Bool) (n a : Nat) (of : List Int) (tr tr' : List Bool) : Prop where
  own : ∀ b, b < n → E a b = true → bAt tr' b = true
  all : ∀ b, b < n → bAt tr' b = true → bAt tr b = false → ∃ r : Nat, r < n ∧ iAt of b = (r : Int) ∧ ∀ c, c < n → E r c = true → bAt tr' c = true
theorem scan_shut (E : Nat → Nat → Bool) (n : Nat) (fuel : Nat) (rec : Nat → List Int → List Bool → Bool × List Int × List Bool)
    (hrec : ∀ (r : Nat) (of : List Int) (tr : List Bool), r < n → of.length = n → tr.length = n → Ed E n of → GOut E n r of tr (rec r of tr))
    (hrs : ∀ (r : Nat) (of : List Int) (tr : List Bool), r < n → of.length = n → tr.length = n → Ed E n of → untr tr < fuel → (rec r of tr).1 = false → Shut E n r of tr (rec r of tr).2.2) (a : Nat) (ha : a < n) :
    ∀ (j : Nat) (of : List Int) (tr : List Bool), j ≤ n → of.length = n → tr.length = n → Ed E n of → untr tr ≤ fuel → (scanK E (fun _ => false) n rec a j of tr).1 = false →
      (∀ b, n - j ≤ b → b < n → E a b = true → bAt (scanK E (fun _ => false) n rec a j of tr).2.2 b = true) ∧
      ∀ b, b < n → bAt (scanK E (fun _ => false) n rec a j of tr).2.2 b = true → bAt tr b = false → ∃ r : Nat, r < n ∧ iAt of b = (r : Int) ∧ ∀ c, c < n → E r c = true → bAt (scanK E (fun _ => false) n rec a j of tr).2.2 c = true
  | 0, of, tr, _, h1, h2, h3, _, _ => by
    rw [scanK]
    exact ⟨fun b h4 h5 => by omega, fun b _ h4 h5 => by rw [h4] at h5; cases h5⟩
  | j + 1, of, tr, hj, h1, h2, h3, hf, hq => by
    have ih := scan_shut E n fuel rec hrec hrs a ha j
    have go := scan_out E (fun _ => false) n rec hrec a ha j
    rw [scanK] at hq ⊢
    obtain ⟨b, hb⟩ : ∃ b, b = n - (j + 1) := ⟨_, rfl⟩
    rw [← hb] at hq ⊢
    have hbn : b < n := by omega
    by_cases hc : E a b = false ∨ bAt tr b = true
    · rw [if_pos hc] at hq ⊢
      obtain ⟨i1, i2⟩ := ih of tr (by omega) h1 h2 h3 hf hq
      refine ⟨?_, i2⟩
      intro c hc1 hc2 hce
      by_cases e : c = b
      · subst e
        rcases hc with h | h
        · rw [h] at hce; cases hce
        · exact (go of tr (by omega) h1 h2 h3).mono c h
      · exact i1 c (by omega) hc2 hce
    · rw [if_neg hc] at hq ⊢
      have ht : bAt tr b = false := by cases h : bAt tr b with | false => rfl | true => exact absurd (.inr h) hc
      by_cases hneg : iAt of b < 0
      · rw [if_pos hneg] at hq; cases hq
      · rw [if_neg hneg, if_neg (by simp)] at hq ⊢
        have hset : (tr.set b true).length = n := by simp [h2]
        obtain ⟨r, hr, hrb, hrE⟩ : ∃ r : Nat, r < n ∧ iAt of b = (r : Int) ∧ E r b = true := by
          rcases h3 b hbn with h | h
          · omega
          · exact h
        have hrt : (iAt of b).toNat = r := by omega
        rw [hrt] at hq ⊢
        have hun := untr_set (tr := tr) (b := b) (by omega) ht
        have g := hrec r of (tr.set b true) hr h1 hset h3
        have gs := hrs r of (tr.set b true) hr h1 hset h3 (by omega)
        generalize rec r of (tr.set b true) = q at g gs hq
        obtain ⟨q1, q2, q3⟩ := q
        have hself : bAt (tr.set b true) b = true := by rw [bAt_set (by omega), if_pos rfl]
        by_cases hq1 : q1 = true
        · rw [if_pos hq1] at hq; cases hq
        · rw [if_neg hq1] at hq ⊢
          have hq' : q1 = false := by simpa using hq1
          subst hq'
          have e : q2 = of := g.no rfl
          subst e
          have s := gs rfl
          have gu : untr q3 ≤ untr (tr.set b true) := g.un
          have gb : bAt q3 b = true := g.mono b hself
          obtain ⟨i1, i2⟩ := ih q2 q3 (by omega) h1 g.lt g.ed (by omega) hq
          have gg := go q2 q3 (by omega) h1 g.lt g.ed
          refine ⟨?_, ?_⟩
          · intro c hc1 hc2 hce
            by_cases e : c = b
            · subst e; exact gg.mono c gb
            · exact i1 c (by omega) hc2 hce
          · intro c hcn hc1 hc2
            by_cases e : c = b
            · subst e
              exact ⟨r, hr, hrb, fun d hd he => gg.mono d (s.own d hd he)⟩
            · cases h9 : bAt q3 c with
              | false => exact i2 c hcn hc1 h9
              | true =>
                obtain ⟨r', h4, h5, h6⟩ := s.all c hcn h9 (by rw [bAt_set (by omega), if_neg e]; exact hc2)
                exact ⟨r', h4, h5, fun d hd he => gg.mono d (h6 d hd he)⟩
theorem grow_shut (E : Nat → Nat → Bool) (n : Nat) : ∀ (fuel : Nat) (a : Nat) (of : List Int) (tr : List Bool), a < n → of.length = n → tr.length = n → Ed E n of → untr tr < fuel → (growK E (fun _ => false) n fuel a of tr).1 = false → Shut E n a of tr (growK E (fun _ => false) n fuel a of tr).2.2
  | 0, a, of, tr, ha, h1, h2, h3, hf, _ => by omega
  | fuel + 1, a, of, tr, ha, h1, h2, h3, hf, hq => by
    rw [growK] at hq ⊢
    obtain ⟨i1, i2⟩ := scan_shut E n fuel _ (fun r of' tr' hr h1' h2' h3' => grow_out E _ n fuel r of' tr' hr h1' h2' h3') (fun r of' tr' hr h1' h2' h3' hu hq' => grow_shut E n fuel r of' tr' hr h1' h2' h3' hu hq') a ha n of tr (Nat.le_refl _) h1 h2 h3 (by omega) hq
    exact ⟨fun b hb he => i1 b (by omega) hb he, i2⟩
def stepK (E : Nat → Nat → Bool) (fx : Nat → Bool) (n : Nat) (p : List Int × Nat) (a : Nat) : List Int × Nat :=
  ((growK E fx n (n + 1) a p.1 (List.replicate n false)).2.1, if (growK E fx n (n + 1) a p.1 (List.replicate n false)).1 = true then p.2 + 1 else p.2)
/-- behind the rows s, .., s + k - 1 -/
def runK (E : Nat → Nat → Bool) (fx : Nat → Bool) (n s : Nat) (p : List Int × Nat) : Nat → List Int × Nat
  | 0 => p
  | k + 1 => stepK E fx n (runK E fx n s p k) (s + k)
def noF : Nat → Bool := fun _ => false
def mostK (E : Nat → Nat → Bool) (n : Nat) : Nat := (runK E noF n 0 (List.replicate n (-1), 0) n).2
theorem count_two {l : List Int} {x : Int} {i j : Nat} (hij : i ≠ j) (hi : i < l.length) (hj : j < l.length) (h1 : l[i] = x) (h2 : l[j] = x) : 2 ≤ l.count x := by
  have h3 := List.count_set (a := x + 1) (b := x) hi
  have h4 : 0 < (l.set i (x + 1)).count x := List.count_pos_iff.2 (List.mem_iff_getElem.2 ⟨j, by simpa using hj, by rw [List.getElem_set_ne hij]; exact h2⟩)
  have h5 : (x + 1 == x) = false := by rw [beq_eq_false_iff_ne]; omega
  rw [h1, h5] at h3
  simp at h3
  omega
theorem count_one {l : List Int} {x : Int} (h : ∀ i j : Nat, ∀ (hi : i < l.length) (hj : j < l.length), l[i] = x → l[j] = x → i = j) : l.count x ≤ 1 := by
  rcases Nat.lt_or_ge 1 (l.count x) with h1 | h1
  · exfalso
    obtain ⟨i, hi, hix⟩ := List.mem_iff_getElem.1 (List.count_pos_iff.1 (show 0 < l.count x by omega))
    have h3 := List.count_set (a := x + 1) (b := x) hi
    have h5 : (x + 1 == x) = false := by rw [beq_eq_false_iff_ne]; omega
    rw [hix, h5] at h3
    simp at h3
    obtain ⟨j, hj, hjx⟩ := List.mem_iff_getElem.1 (List.count_pos_iff.1 (show 0 < (l.set i (x + 1)).count x by omega))
    have hj' : j < l.length := by simpa using hj
    by_cases e : i = j
    · subst e; rw [List.getElem_set_self] at hjx; omega
    · rw [List.getElem_set_ne e] at hjx
      exact e (h i j hi hj' hix hjx)
  · exact h1
/-- a matching of the rows below k, by the row in front of each place -/
structure Mt (E : Nat → Nat → Bool) (n k : Nat) (N : List Int) : Prop where
  len : N.length = n
  ed : ∀ b, b < n → iAt N b = -1 ∨ ∃ r : Nat, r < k ∧ iAt N b = (r : Int) ∧ E r b = true
  inj : ∀ b c, b < n → c < n → iAt N b = iAt N c → 0 ≤ iAt N b → b = c
theorem Mt.cnt {E : Nat → Nat → Bool} {n k : Nat} {N : List Int} (h : Mt E n k N) (x : Int) (hx : 0 ≤ x) : N.count x ≤ 1 := by
  refine count_one ?_
  intro i j hi hj h1 h2
  have hl := h.len
  rw [← iAt_eq hi] at h1; rw [← iAt_eq hj] at h2
  exact h.inj i j (by omega) (by omega) (h1.trans h2.symm) (by omega)
theorem inj_of_cnt {n : Nat} {N : List Int} (hl : N.length = n) (h : ∀ x : Int, 0 ≤ x → N.count x ≤ 1) : ∀ b c, b < n → c < n → iAt N b = iAt N c → 0 ≤ iAt N b → b = c := by
  intro b c hb hc h1 h2
  by_cases e : b = c
  · exact e
  · have hb' : b < N.length := by omega
    have hc' : c < N.length := by omega
    rw [iAt_eq hb', iAt_eq hc'] at h1
    rw [iAt_eq hb'] at h2
    have := count_two e hb' hc' rfl h1.symm
    have := h _ h2
    omega
theorem Mt.up {E : Nat → Nat → Bool} {n k : Nat} {N : List Int} (h : Mt E n k N) : Mt E n (k + 1) N :=
  ⟨h.len, fun b hb => (h.ed b hb).imp id (fun ⟨r, h1, h2⟩ => ⟨r, by omega, h2⟩), h.inj⟩
theorem Mt.toEd {E : Nat → Nat → Bool} {n k : Nat} {N : List Int} (h : Mt E n k N) (hk : k ≤ n) : Ed E n N := fun b hb => (h.ed b hb).imp id (fun ⟨r, h1, h2⟩ => ⟨r, by omega, h2⟩)
theorem Mt.nil (E : Nat → Nat → Bool) (n : Nat) : Mt E n 0 (List.replicate n (-1)) := by
  have h : ∀ b, b < n → iAt (List.replicate n (-1)) b = -1 := fun b hb => by rw [iAt_eq (by simpa using hb)]; simp
  exact ⟨by simp, fun b hb => .inl (h b hb), fun b c hb hc h1 h2 => by rw [h b hb] at h2; omega⟩
theorem list_iAt (N : List Int) : N = (List.range N.length).map (iAt N) := by
  apply List.ext_getElem (by simp)
  intro i h1 h2
  simp [iAt_eq h1]
theorem posN_map (n : Nat) (f : Nat → Int) : posN ((List.range n).map f) = (List.range n).countP (fun b => decide (0 ≤ f b)) := by
  unfold posN; rw [List.countP_map]; rfl
theorem posN_range {n : Nat} {N : List Int} (h : N.length = n) : posN N = (List.range n).countP (fun b => decide (0 ≤ iAt N b)) := by
  have := posN_map n (iAt N)
  rw [← h] at this ⊢
  rw [← list_iAt] at this
  exact this
/-- a matching with one row more: it loses at most one place -/
theorem Mt.down {E : Nat → Nat → Bool} {n k : Nat} {N : List Int} (h : Mt E n (k + 1) N) : ∃ N', Mt E n k N' ∧ posN N ≤ posN N' + 1 := by
  by_cases hk : ∃ b, b < n ∧ iAt N b = (k : Int)
  · obtain ⟨b, hb, hbk⟩ := hk
    have hl := h.len
    have hat : ∀ c, iAt (N.set b (-1)) c = if c = b then -1 else iAt N c := fun c => iAt_set (by omega)
    refine ⟨N.set b (-1), ⟨by simp [hl], ?_, ?_⟩, ?_⟩
    · intro c hc
      rw [hat]
      by_cases e : c = b
      · rw [if_pos e]; exact .inl rfl
      · rw [if_neg e]
        rcases h.ed c hc with h1 | ⟨r, h1, h2, h3⟩
        · exact .inl h1
        · refine .inr ⟨r, ?_, h2, h3⟩
          rcases Nat.lt_or_ge r k with h4 | h4
          · exact h4
          · have : r = k := by omega
            subst this
            exact absurd (h.inj c b hc hb (h2.trans hbk.symm) (by omega)) e
    · intro c d hc hd h1 h2
      rw [hat, hat] at h1; rw [hat] at h2
      by_cases e : c = b
      · rw [if_pos e] at h2; omega
      · rw [if_neg e] at h1 h2
        by_cases e2 : d = b
        · rw [if_pos e2] at h1; omega
        · rw [if_neg e2] at h1; exact h.inj c d hc hd h1 h2
    · have h1 : b < N.length := by omega
      have h2 : 0 < posN N := List.countP_pos_iff.2 ⟨N[b], List.getElem_mem h1, by rw [iAt_eq h1] at hbk; simp [hbk]⟩
      unfold posN at *
      rw [List.countP_set h1]
      rw [iAt_eq h1] at hbk
      simp [hbk]; omega
  · refine ⟨N, ⟨h.len, ?_, h.inj⟩, by omega⟩
    intro c hc
    rcases h.ed c hc with h1 | ⟨r, h1, h2, h3⟩
    · exact .inl h1
    · refine .inr ⟨r, ?_, h2, h3⟩
      rcases Nat.lt_or_ge r k with h4 | h4
      · exact h4
      · have : r = k := by omega
        subst this
        exact absurd ⟨c, hc, h2⟩ hk
/-- where a search from row k failed, a matching with that row is no greater than one without -/
theorem Mt.swap {E : Nat → Nat → Bool} {n k : Nat} {M N : List Int} {tr' : List Bool} (hM : Mt E n k M) (hN : Mt E n (k + 1) N)
    (hs : Shut E n k M (List.replicate n false) tr') : ∃ N', Mt E n k N' ∧ posN N ≤ posN N' := by
  have hall : ∀ b, b < n → bAt tr' b = true → ∃ r : Nat, r < n ∧ iAt M b = (r : Int) ∧ ∀ c, c < n → E r c = true → bAt tr' c = true := fun b hb h1 => hs.all b hb h1 (by rw [bAt_eq (by simpa using hb)]; simp)
  let f : Nat → Int := fun b => if bAt tr' b = true then iAt M b else iAt N b
  have hf : ∀ b, b < n → iAt ((List.range n).map f) b = f b := fun b hb => by rw [iAt_eq (by simpa using hb)]; simp
  have hfd : ∀ b, f b = if bAt tr' b = true then iAt M b else iAt N b := fun _ => rfl
  refine ⟨(List.range n).map f, ⟨by simp, ?_, ?_⟩, ?_⟩
  · intro b hb
    rw [hf b hb, hfd b]
    by_cases e : bAt tr' b = true
    · rw [if_pos e]; exact hM.ed b hb
    · rw [if_neg e]
      rcases hN.ed b hb with h1 | ⟨r, h1, h2, h3⟩
      · exact .inl h1
      · refine .inr ⟨r, ?_, h2, h3⟩
        rcases Nat.lt_or_ge r k with h4 | h4
        · exact h4
        · have : r = k := by omega
          subst this
          exact absurd (hs.own b hb h3) e
  · intro b c hb hc h1 h2
    rw [hf b hb, hf c hc] at h1
    rw [hf b hb] at h2
    have cross : ∀ b c, b < n → c < n → bAt tr' b = true → ¬ bAt tr' c = true → iAt M b = iAt N c → False := by
      intro b c hb hc e1 e2 h
      obtain ⟨r, h3, h4, h5⟩ := hall b hb e1
      rcases hN.ed c hc with h6 | ⟨r', h6, h7, h8⟩
      · omega
      · have : r = r' := by omega
        subst this
        exact e2 (h5 c hc h8)
    rw [hfd, hfd] at h1
    rw [hfd] at h2
    by_cases e : bAt tr' b = true
    · rw [if_pos e] at h1 h2
      by_cases e2 : bAt tr' c = true
      · rw [if_pos e2] at h1; exact hM.inj b c hb hc h1 h2
      · rw [if_neg e2] at h1; exact absurd h1 (fun h => cross b c hb hc e e2 h)
    · rw [if_neg e] at h1 h2
      by_cases e2 : bAt tr' c = true
      · rw [if_pos e2] at h1; exact absurd h1 (fun h => cross c b hc hb e2 e h.symm)
      · rw [if_neg e2] at h1; exact hN.inj b c hb hc h1 h2
  · rw [posN_range hN.len, posN_map]
    refine List.countP_mono_left ?_
    intro b hb h1
    have hbn := List.mem_range.1 hb
    have h1' : 0 ≤ iAt N b := by simpa using h1
    rw [hfd]
    by_cases e : bAt tr' b = true
    · rw [if_pos e]
      obtain ⟨r, h3, h4, h5⟩ := hall b hbn e
      simp; omega
    · rw [if_neg e]; exact h1
theorem iAt_mem {N : List Int} {b : Nat} (h : b < N.length) : iAt N b ∈ N := by rw [iAt_eq h]; exact List.getElem_mem h
theorem count_zero {E : Nat → Nat → Bool} {n k : Nat} {N : List Int} (h : Mt E n k N) : N.count (k : Int) = 0 := by
  rw [List.count_eq_zero]
  intro hm
  obtain ⟨b, hb, he⟩ := List.mem_iff_getElem.1 hm
  rw [← iAt_eq hb] at he
  rcases h.ed b (by rw [← h.len]; exact hb) with h1 | ⟨r, h1, h2, _⟩ <;> omega
theorem run_max (E : Nat → Nat → Bool) (n : Nat) : ∀ k : Nat, k ≤ n → Mt E n k (runK E noF n 0 (List.replicate n (-1), 0) k).1 ∧ posN (runK E noF n 0 (List.replicate n (-1), 0) k).1 = (runK E noF n 0 (List.replicate n (-1), 0) k).2 ∧ ∀ N, Mt E n k N → posN N ≤ (runK E noF n 0 (List.replicate n (-1), 0) k).2
  | 0, _ => by
    refine ⟨Mt.nil E n, ?_, ?_⟩
    · show posN (List.replicate n (-1)) = 0
      simp [posN, List.countP_replicate]
    · intro N hN
      show posN N ≤ 0
      rw [posN_range hN.len]
      refine Nat.le_of_eq (List.countP_eq_zero.2 ?_)
      intro b hb
      rcases hN.ed b (List.mem_range.1 hb) with h | ⟨r, h, _⟩
      · simp [h]
      · omega
  | k + 1, hk => by
    obtain ⟨i1, i2, i3⟩ := run_max E n k (by omega)
    rw [runK]
    generalize runK E noF n 0 (List.replicate n (-1), 0) k = p at i1 i2 i3
    obtain ⟨M, c⟩ := p
    dsimp only at i1 i2 i3
    rw [Nat.zero_add]
    unfold stepK
    dsimp only
    have g := grow_out E noF n (n + 1) k M (List.replicate n false) (by omega) i1.len (by simp) (i1.toEd (by omega))
    have s := grow_shut E n (n + 1) k M (List.replicate n false) (by omega) i1.len (by simp) (i1.toEd (by omega)) (by simp [untr])
    change _ = false → Shut E n k M _ (growK E noF n (n + 1) k M (List.replicate n false)).2.2 at s
    change (growK E noF n (n + 1) k M (List.replicate n false)).1 = false → _ at s
    generalize growK E noF n (n + 1) k M (List.replicate n false) = q at g s
    obtain ⟨q1, q2, q3⟩ := q
    cases q1 with
    | false =>
      have e : q2 = M := g.no rfl
      subst e
      refine ⟨i1.up, by simpa using i2, ?_⟩
      intro N hN
      obtain ⟨N', h1, h2⟩ := i1.swap hN (s rfl)
      have := i3 N' h1
      simp; omega
    | true =>
      have hc : ∀ x : Int, 0 ≤ x → q2.count x = M.count x + (if x = (k : Int) then 1 else 0) := g.cnt rfl
      have hs : posN q2 = posN M + 1 := g.siz rfl
      have hlo : q2.length = n := g.lo
      refine ⟨⟨hlo, ?_, inj_of_cnt hlo ?_⟩, ?_, ?_⟩
      · intro b hb
        rcases g.ed b hb with h1 | ⟨r, h1, h2, h3⟩
        · exact .inl h1
        · refine .inr ⟨r, ?_, h2, h3⟩
          rcases Nat.lt_or_ge k r with h4 | h4
          · exfalso
            have h5 := hc (r : Int) (by omega)
            rw [if_neg (by omega)] at h5
            have h6 : 0 < q2.count (r : Int) := List.count_pos_iff.2 (by
              have h7 : b < q2.length := by omega
              have h8 : iAt q2 b = (r : Int) := h2
              rw [← h8]; exact iAt_mem h7)
            obtain ⟨c', hc', hce⟩ := List.mem_iff_getElem.1 (List.count_pos_iff.1 (show 0 < M.count (r : Int) by omega))
            rw [← iAt_eq hc'] at hce
            rcases i1.ed c' (by rw [← i1.len]; exact hc') with h9 | ⟨r', h9, h10, _⟩ <;> omega
          · omega
      · intro x hx
        have h1 := hc x hx
        show q2.count x ≤ 1
        by_cases e : x = (k : Int)
        · rw [if_pos e, e, count_zero i1] at h1; rw [e]; omega
        · rw [if_neg e] at h1; have := i1.cnt x hx; omega
      · simp; omega
      · intro N hN
        obtain ⟨N', h1, h2⟩ := hN.down
        have := i3 N' h1
        simp; omega
theorem most_max (E : Nat → Nat → Bool) (n : Nat) {N : List Int} (h : Mt E n n N) : posN N ≤ mostK E n := (run_max E n n (Nat.le_refl n)).2.2 N h
theorem most_has (E : Nat → Nat → Bool) (n : Nat) : ∃ M, Mt E n n M ∧ posN M = mostK E n := ⟨_, (run_max E n n (Nat.le_refl n)).1, (run_max E n n (Nat.le_refl n)).2.1⟩
theorem most_le (E : Nat → Nat → Bool) (n : Nat) : mostK E n ≤ n := by
  obtain ⟨M, h1, h2⟩ := most_has E n
  rw [← h2]
  have := List.countP_le_length (p := fun x : Int => decide (0 ≤ x)) (l := M)
  have h3 := h1.len
  unfold posN; omega
end Go.Proofs.Ytlgeddbgbcineaa
