/-
Plain laws of FnFewestOut: the fewest that are put outside, and the circle of guests that wait for one another. No program.
-/
import Derived.Test.YtedoibgclplnaaaRoomS
import Derived.Test.YtedoibgclplnaaaRoomI
import Derived.Test.YtedoibgclplnaaaGuestB
namespace Go.Proofs.Ytedoibgclplnaaa
set_option linter.unusedVariables false

theorem orb_shift {nx : Nat → Int} {f s t : Nat} (h : orb nx f s = orb nx f t) : ∀ d, orb nx f (s + d) = orb nx f (t + d)
  | 0 => h
  | d + 1 => by
    show (if orb nx f (s + d) < 0 then -1 else nx (orb nx f (s + d)).toNat) = (if orb nx f (t + d) < 0 then -1 else nx (orb nx f (t + d)).toNat)
    rw [orb_shift h d]
theorem orb_new {nx : Nat → Int} {f T : Nat} (ha : Alive nx f T) (hT : orb nx f T = f) {s t : Nat} (hst : s < t) (htT : t < T) : orb nx f s ≠ orb nx f t := fun h => by
  have h1 := orb_shift h (T - t)
  rw [show t + (T - t) = T by omega, hT] at h1
  exact (ha (s + (T - t)) (by omega) (by omega)).2 h1
theorem nxK_hit {rooms : List Int} {ts : List Guest} {k j : Nat} (hk : k < ts.length) (h : nxK rooms ts k = (j : Int)) (hj : j < ts.length) : restB ts[k] = false ∧ canP rooms ts ts[k] = false ∧ ts[j].here = ts[k].wants := by
  unfold nxK at h
  simp only [List.getElem?_eq_getElem hk] at h
  split at h
  · rename_i hw
    have h1 := firstN_some h
    rw [aftP_at hj] at h1
    simp only [waitP, Bool.and_eq_true, Bool.not_eq_true'] at hw h1
    exact ⟨hw.1, hw.2, by simpa using h1.1⟩
  · omega
/-- what a circle tells -/
structure CircK (rooms : List Int) (ts : List Guest) (o : List Int) : Prop where
  pos : 1 ≤ o.length
  len : o.length ≤ ts.length
  at_ : ∀ (i : Nat) (hi : i < o.length), ∃ (k j : Nat) (hk : k < ts.length) (hj : j < ts.length), o[i] = (k : Int) ∧ o[(i + 1) % o.length]'(Nat.mod_lt _ (by omega)) = (j : Int) ∧ (o.take i).contains (k : Int) = false ∧ restB ts[k] = false ∧ canP rooms ts ts[k] = false ∧ ts[j].here = ts[k].wants
theorem circ_tells {rooms : List Int} {ts : List Guest} {f : Nat} {o : List Int} (hf : f < ts.length) (h : Circ (nxK rooms ts) ts.length f o) : CircK rooms ts o := by
  obtain ⟨T, h1, h2, ha, hT, rfl⟩ := h
  have hlen := orbL_len (nx := nxK rooms ts) (f := f) T
  refine ⟨by omega, by omega, fun i hi => ?_⟩
  have hi : i < T := by omega
  have hbd := orb_bd (rooms := rooms) (ts := ts) hf
  have hpos : ∀ t, t ≤ T → 0 ≤ orb (nxK rooms ts) f t := fun t ht => by
    rcases Nat.eq_zero_or_pos t with e | e
    · subst e; show 0 ≤ (f : Int); omega
    · rcases Nat.lt_or_ge t T with e2 | e2
      · exact (ha t e e2).1
      · obtain rfl : t = T := by omega
        rw [hT]; omega
  obtain ⟨k, hk⟩ := Int.eq_ofNat_of_zero_le (hpos i (by omega))
  obtain ⟨j, hj⟩ := Int.eq_ofNat_of_zero_le (hpos (i + 1) (by omega))
  have hkn : k < ts.length := by have := (hbd i).1; omega
  have hjn : j < ts.length := by have := (hbd (i + 1)).1; omega
  have hnx : nxK rooms ts k = (j : Int) := by rw [← orb_next hk]; exact hj
  obtain ⟨r1, r2, r3⟩ := nxK_hit hkn hnx hjn
  refine ⟨k, j, hkn, hjn, ?_, ?_, ?_, r1, r2, r3⟩
  · simp only [orbL, List.getElem_map, List.getElem_range]; exact hk
  · simp only [orbL, List.getElem_map, List.getElem_range, List.length_map, List.length_range]
    rcases Nat.lt_or_ge (i + 1) T with e | e
    · rw [Nat.mod_eq_of_lt e]; exact hj
    · have e2 : i + 1 = T := by omega
      rw [e2] at hj ⊢
      rw [Nat.mod_self]
      rw [hT] at hj
      exact hj
  · cases hc : ((orbL (nxK rooms ts) f T).take i).contains (k : Int) with
    | false => rfl
    | true =>
      exfalso
      rw [List.contains_iff_mem, List.mem_iff_getElem] at hc
      obtain ⟨s, hs, he⟩ := hc
      rw [List.length_take] at hs
      have hsi : s < i := by omega
      simp only [List.getElem_take, orbL, List.getElem_map, List.getElem_range] at he
      exact orb_new ha hT hsi hi (by rw [he, hk])
theorem circT_tells {rooms : List Int} {ts : List Guest} {o : List Int} (h : circT rooms ts 0 = some o) : CircK rooms ts o := by
  unfold circT at h
  obtain ⟨f, hf, h1⟩ := List.exists_of_findSome?_eq_some h
  have hfl : f < ts.length := by simpa using hf
  unfold circ1 at h1
  split at h1
  · rename_i h2
    have h3 := h2.choose_spec
    have e : h2.choose = o := by simpa using h1
    rw [e] at h3
    exact circ_tells hfl h3
  · cases h1
theorem circR_tells {rooms : List Int} {ts : List Guest} (hok : roomsOk rooms ts = true) : (∃ o, circR rooms ts = (o, 0) ∧ CircK rooms ts o) ∨ circR rooms ts = ([], 3) := by
  unfold circR
  rw [if_pos hok]
  cases h : circT rooms ts 0 with
  | some o => exact .inl ⟨o, rfl, circT_tells h⟩
  | none => exact .inr rfl
theorem fewX_best {rooms : List Int} {ts : List Guest} : IsBest ts.length (fe rooms ts) (fewX rooms ts) := by
  have hex : ∃ X, IsBest ts.length (fe rooms ts) X := by
    obtain ⟨Y, h1, _, h3⟩ := fe_all rooms ts
    have key : ∀ s, ∃ b X, BestTo ts.length (fe rooms ts) s b X := by
      intro s
      induction s with
      | zero => exact ⟨false, [], bestTo_zero⟩
      | succ s ih =>
        obtain ⟨b, X, h⟩ := ih
        cases hf : fe rooms ts (subL ts.length s) with
        | false => exact ⟨b, X, bestTo_no h hf⟩
        | true =>
          by_cases hl : less (subL ts.length s) X
          · exact ⟨true, _, bestTo_yes h (fun _ => hl) hf⟩
          · cases b with
            | true => exact ⟨true, X, bestTo_skip h hl⟩
            | false => exact ⟨true, _, bestTo_yes h (fun e => by cases e) hf⟩
    obtain ⟨b, X, h⟩ := key (2 ^ ts.length)
    exact ⟨X, bestTo_end h ⟨Y, h1, h3⟩⟩
  unfold fewX; rw [dif_pos hex]; exact hex.choose_spec
/-- rising numbers, as the law looks at them -/
def riseB (X : List Int) (n : Int) : Prop := ∀ (k : Nat) (hk : k < X.length), 0 ≤ X[k] ∧ X[k] < n ∧ ∀ (h0 : 0 < k), X[k - 1] < X[k]
theorem inc_rise {n : Nat} : ∀ {a : Nat} {X : List Int}, Inc n a X → (∀ (k : Nat) (hk : k < X.length), (a : Int) ≤ X[k] ∧ X[k] < (n : Int) ∧ ∀ (h0 : 0 < k), X[k - 1] < X[k])
  | _, _, .nil => fun k hk => by simp at hk
  | a, _, .cons (i := i) (l := l) h1 h2 h3 => fun k hk => by
    have ih := inc_rise h3
    cases k with
    | zero => simp; omega
    | succ k =>
      have hk2 : k < l.length := by simpa using hk
      obtain ⟨i1, i2, i3⟩ := ih k hk2
      simp only [List.getElem_cons_succ]
      refine ⟨by omega, i2, fun _ => ?_⟩
      cases k with
      | zero => simp; omega
      | succ k =>
        have := i3 (by omega)
        simpa using this
theorem few_rise {rooms : List Int} {ts : List Guest} : riseB (fewX rooms ts) (ts.length : Int) := fun k hk => by
  have := inc_rise (fewX_best (rooms := rooms) (ts := ts)).1 k hk
  exact ⟨by omega, this.2.1, this.2.2⟩
theorem few_fe {rooms : List Int} {ts : List Guest} : fe rooms ts (fewX rooms ts) = true := fewX_best.2.1
theorem few_none {rooms : List Int} {ts : List Guest} (h : 0 < (fewX rooms ts).length) : fe rooms ts [] = false := by
  cases hf : fe rooms ts [] with
  | false => rfl
  | true =>
    exfalso
    rcases (fewX_best (rooms := rooms) (ts := ts)).2.2 [] .nil hf with e | h1 | ⟨h1, _⟩
    · rw [← e] at h; simp at h
    · simp at h1
    · simp at h1; rw [h1] at h; simp at h
theorem few_one {rooms : List Int} {ts : List Guest} (h : 1 < (fewX rooms ts).length) {y : Nat} (hy : y < ts.length) : fe rooms ts [(y : Int)] = false := by
  cases hf : fe rooms ts [(y : Int)] with
  | false => rfl
  | true =>
    exfalso
    rcases (fewX_best (rooms := rooms) (ts := ts)).2.2 [(y : Int)] (.cons (Nat.zero_le _) hy .nil) hf with e | h1 | ⟨h1, _⟩
    · rw [← e] at h; simp at h
    · simp at h1; rw [h1] at h; simp at h
    · simp at h1; omega
theorem few_len {rooms : List Int} {ts : List Guest} : (fewX rooms ts).length ≤ ts.length := by
  rcases Nat.eq_zero_or_pos (fewX rooms ts).length with h | h
  · omega
  · have := (fewX_best (rooms := rooms) (ts := ts)).1.len (by intro e; rw [e] at h; simp at h)
    omega
end Go.Proofs.Ytedoibgclplnaaa
