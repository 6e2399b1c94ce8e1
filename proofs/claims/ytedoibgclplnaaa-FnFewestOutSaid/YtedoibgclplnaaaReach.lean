/-
Sets that are met by steps, the most that can go, the first order. Plain laws, no program.
-/
import Derived.Test.YtedoibgclplnaaaRoomF
namespace Go.Proofs.Ytedoibgclplnaaa
set_option linter.unusedVariables false

/-- sets of guests that are met by steps -/
inductive Rch (n : Nat) (can : Nat → Nat → Bool) (S0 : Nat) : Nat → Prop
  | zero : Rch n can S0 S0
  | step {S k : Nat} : Rch n can S0 S → k < n → can S k = true → Rch n can S0 (S ||| 2 ^ k)
def popc (n S : Nat) : Nat := ((List.range n).filter fun k => S.testBit k).length
theorem or_gt {S k : Nat} (h : S.testBit k = false) : S < S ||| 2 ^ k := by
  rcases Nat.lt_or_ge S (S ||| 2 ^ k) with h1 | h1
  · exact h1
  · have h2 : S ||| 2 ^ k = S := Nat.le_antisymm h1 Nat.left_le_or
    have h3 : (S ||| 2 ^ k).testBit k = true := by simp
    rw [h2, h] at h3; cases h3
theorem or_lt {S k n : Nat} (hS : S < 2 ^ n) (hk : k < n) : S ||| 2 ^ k < 2 ^ n := Nat.or_lt_two_pow hS (Nat.pow_lt_pow_right (by omega) hk)
theorem testBit_or_pow (S k j : Nat) : (S ||| 2 ^ k).testBit j = (S.testBit j || decide (k = j)) := by simp [Nat.testBit_or, Nat.testBit_two_pow]
theorem popc_or {n S k : Nat} (hk : k < n) (h : S.testBit k = false) : popc n (S ||| 2 ^ k) = popc n S + 1 := by
  induction n with
  | zero => omega
  | succ n ih =>
    have hs : ∀ X, popc (n + 1) X = popc n X + (if X.testBit n then 1 else 0) := fun X => by
      unfold popc; rw [List.range_succ, List.filter_append, List.length_append]
      cases hX : X.testBit n <;> simp [hX]
    rw [hs, hs, testBit_or_pow]
    by_cases e : k = n
    · subst e
      have : popc k (S ||| 2 ^ k) = popc k S := by
        unfold popc; congr 1; apply List.filter_congr; intro x hx
        have hx : x < k := by simpa using hx
        rw [testBit_or_pow]; simp; omega
      simp [this, h]
    · rw [ih (by omega)]; simp [e]; omega
section
variable {n : Nat} {can : Nat → Nat → Bool} (hc : ∀ S k, can S k = true → S.testBit k = false)
theorem Rch.lt {S0 S : Nat} (h : Rch n can S0 S) (h0 : S0 < 2 ^ n) : S < 2 ^ n := by
  induction h with
  | zero => exact h0
  | step _ hk _ ih => exact or_lt ih hk
include hc in
theorem Rch.le {S0 S : Nat} (h : Rch n can S0 S) : S0 ≤ S := by
  induction h with
  | zero => exact Nat.le_refl _
  | step _ hk hcan ih => exact Nat.le_trans ih (Nat.le_of_lt (or_gt (hc _ _ hcan)))
theorem Rch.trans {S0 S T : Nat} (h : Rch n can S0 S) (h' : Rch n can S T) : Rch n can S0 T := by
  induction h' with
  | zero => exact h
  | step _ hk hcan ih => exact ih.step hk hcan
theorem Rch.one {S k : Nat} (hk : k < n) (h : can S k = true) : Rch n can S (S ||| 2 ^ k) := Rch.zero.step hk h
/-- by its first step -/
theorem Rch.head {S T : Nat} (h : Rch n can S T) : T = S ∨ ∃ k, k < n ∧ can S k = true ∧ Rch n can (S ||| 2 ^ k) T := by
  induction h with
  | zero => exact .inl rfl
  | step _ hk hcan ih =>
    rcases ih with rfl | ⟨j, hj, hcj, hr⟩
    · exact .inr ⟨_, hk, hcan, .zero⟩
    · exact .inr ⟨j, hj, hcj, hr.step hk hcan⟩
theorem Rch.last {S T : Nat} (h : Rch n can S T) : T = S ∨ ∃ k T', k < n ∧ Rch n can S T' ∧ can T' k = true ∧ T = T' ||| 2 ^ k := by
  cases h with
  | zero => exact .inl rfl
  | step h hk hcan => exact .inr ⟨_, _, hk, h, hcan, rfl⟩

/-- what the table holds at set i, guest k -/
def Tab (n : Nat) (can : Nat → Nat → Bool) (i k S : Nat) : Prop :=
  S = 0 ∨ (∃ S' j, S' < i ∧ j < n ∧ Rch n can 0 S' ∧ can S' j = true ∧ S = S' ||| 2 ^ j) ∨ (Rch n can 0 i ∧ ∃ j, j < k ∧ can i j = true ∧ S = i ||| 2 ^ j)
theorem tab_zero (S : Nat) : Tab n can 0 0 S ↔ S = 0 := by
  constructor
  · rintro (h | ⟨S', j, h, _⟩ | ⟨_, j, h, _⟩)
    · exact h
    · omega
    · omega
  · exact .inl
include hc in
theorem tab_at (i : Nat) : Tab n can i 0 i ↔ Rch n can 0 i := by
  constructor
  · rintro (rfl | ⟨S', j, h, hj, hr, hcan, rfl⟩ | ⟨_, j, h, _⟩)
    · exact .zero
    · exact hr.step hj hcan
    · omega
  · intro h
    rcases h.last with rfl | ⟨k, T', hk, hr, hcan, rfl⟩
    · exact .inl rfl
    · exact .inr (.inl ⟨T', k, or_gt (hc _ _ hcan), hk, hr, hcan, rfl⟩)
theorem tab_next {i S : Nat} (h : Rch n can 0 i) : Tab n can (i + 1) 0 S ↔ Tab n can i n S := by
  constructor
  · rintro (rfl | ⟨S', j, h1, hj, hr, hcan, rfl⟩ | ⟨_, j, h1, _⟩)
    · exact .inl rfl
    · by_cases e : S' = i
      · subst e; exact .inr (.inr ⟨hr, j, hj, hcan, rfl⟩)
      · exact .inr (.inl ⟨S', j, by omega, hj, hr, hcan, rfl⟩)
    · omega
  · rintro (rfl | ⟨S', j, h1, hj, hr, hcan, rfl⟩ | ⟨hr, j, h1, hcan, rfl⟩)
    · exact .inl rfl
    · exact .inr (.inl ⟨S', j, by omega, hj, hr, hcan, rfl⟩)
    · exact .inr (.inl ⟨i, j, by omega, h1, hr, hcan, rfl⟩)
theorem tab_skip {i S : Nat} (h : ¬ Rch n can 0 i) : Tab n can (i + 1) 0 S ↔ Tab n can i 0 S := by
  constructor
  · rintro (rfl | ⟨S', j, h1, hj, hr, hcan, rfl⟩ | ⟨_, j, h1, _⟩)
    · exact .inl rfl
    · by_cases e : S' = i
      · subst e; exact absurd hr h
      · exact .inr (.inl ⟨S', j, by omega, hj, hr, hcan, rfl⟩)
    · omega
  · rintro (rfl | ⟨S', j, h1, hj, hr, hcan, rfl⟩ | ⟨hr, j, h1, hcan, rfl⟩)
    · exact .inl rfl
    · exact .inr (.inl ⟨S', j, by omega, hj, hr, hcan, rfl⟩)
    · omega
theorem tab_yes {i k S : Nat} (h : Rch n can 0 i) (hcan : can i k = true) : Tab n can i (k + 1) S ↔ (S = i ||| 2 ^ k ∨ Tab n can i k S) := by
  constructor
  · rintro (rfl | h1 | ⟨hr, j, h1, hcan', rfl⟩)
    · exact .inr (.inl rfl)
    · exact .inr (.inr (.inl h1))
    · by_cases e : j = k
      · subst e; exact .inl rfl
      · exact .inr (.inr (.inr ⟨hr, j, by omega, hcan', rfl⟩))
  · rintro (rfl | rfl | h1 | ⟨hr, j, h1, hcan', rfl⟩)
    · exact .inr (.inr ⟨h, k, by omega, hcan, rfl⟩)
    · exact .inl rfl
    · exact .inr (.inl h1)
    · exact .inr (.inr ⟨hr, j, by omega, hcan', rfl⟩)
theorem tab_no {i k S : Nat} (hcan : can i k = false) : Tab n can i (k + 1) S ↔ Tab n can i k S := by
  constructor
  · rintro (rfl | h1 | ⟨hr, j, h1, hcan', rfl⟩)
    · exact .inl rfl
    · exact .inr (.inl h1)
    · have : j ≠ k := fun e => by subst e; rw [hcan] at hcan'; cases hcan'
      exact .inr (.inr ⟨hr, j, by omega, hcan', rfl⟩)
  · rintro (rfl | h1 | ⟨hr, j, h1, hcan', rfl⟩)
    · exact .inl rfl
    · exact .inr (.inl h1)
    · exact .inr (.inr ⟨hr, j, by omega, hcan', rfl⟩)
theorem tab_end {S : Nat} (hS : S < 2 ^ n) : Tab n can (2 ^ n) 0 S ↔ Rch n can 0 S := by
  constructor
  · rintro (rfl | ⟨S', j, h, hj, hr, hcan, rfl⟩ | ⟨_, j, h, _⟩)
    · exact .zero
    · exact hr.step hj hcan
    · omega
  · intro h
    rcases h.last with rfl | ⟨k, T', hk, hr, hcan, rfl⟩
    · exact .inl rfl
    · exact .inr (.inl ⟨T', k, hr.lt (Nat.two_pow_pos n), hk, hr, hcan, rfl⟩)

/-- the most that can still go -/
def IsMost (n : Nat) (can : Nat → Nat → Bool) (S M : Nat) : Prop := (∃ T, Rch n can S T ∧ popc n T = popc n S + M) ∧ ∀ T, Rch n can S T → popc n T ≤ popc n S + M
theorem IsMost.unique {S M M' : Nat} (h : IsMost n can S M) (h' : IsMost n can S M') : M = M' := by
  obtain ⟨⟨T, h1, h2⟩, h3⟩ := h
  obtain ⟨⟨T', k1, k2⟩, k3⟩ := h'
  have := h3 T' k1; have := k3 T h1
  omega
/-- the greatest of those that the first k guests open -/
def MostK (n : Nat) (can : Nat → Nat → Bool) (S k M : Nat) : Prop :=
  (∃ T, Rch n can S T ∧ popc n T = popc n S + M) ∧ ∀ j T, j < k → can S j = true → Rch n can (S ||| 2 ^ j) T → popc n T ≤ popc n S + M
theorem mostK_zero {S : Nat} : MostK n can S 0 0 := ⟨⟨S, .zero, rfl⟩, fun j T h => by omega⟩
theorem mostK_no {S k M : Nat} (h : MostK n can S k M) (hcan : can S k = false) : MostK n can S (k + 1) M := ⟨h.1, fun j T hj hcj hr => by
  by_cases e : j = k
  · subst e; rw [hcan] at hcj; cases hcj
  · exact h.2 j T (by omega) hcj hr⟩
include hc in
theorem mostK_yes {S k M M' : Nat} (h : MostK n can S k M) (hk : k < n) (hcan : can S k = true) (h' : IsMost n can (S ||| 2 ^ k) M') : MostK n can S (k + 1) (max M (1 + M')) := by
  have hp := popc_or hk (hc _ _ hcan)
  obtain ⟨⟨T, h1, h2⟩, h3⟩ := h
  obtain ⟨⟨T', k1, k2⟩, k3⟩ := h'
  refine ⟨?_, fun j T hj hcj hr => ?_⟩
  · by_cases e : M ≤ 1 + M'
    · exact ⟨T', (Rch.one hk hcan).trans k1, by rw [k2, hp]; omega⟩
    · exact ⟨T, h1, by rw [h2]; omega⟩
  · by_cases e : j = k
    · subst e; have := k3 T hr; omega
    · have := h3 j T (by omega) hcj hr; omega
theorem mostK_end {S M : Nat} (h : MostK n can S n M) : IsMost n can S M := ⟨h.1, fun T hr => by
  rcases hr.head with rfl | ⟨k, hk, hcan, hr'⟩
  · omega
  · exact h.2 k T hk hcan hr'⟩

/-- the first order from a set on, by at most so many steps -/
def fo (n : Nat) (can : Nat → Nat → Bool) (dn : Nat → Bool) : Nat → Nat → Option (List Int)
  | 0, _ => none
  | f + 1, S => if dn S = true then some [] else (List.range n).findSome? fun k => if can S k = true then (fo n can dn f (S ||| 2 ^ k)).map (fun l => (k : Int) :: l) else none
include hc in
theorem fo_fuel {dn : Nat → Bool} : ∀ (f f' S : Nat), S < 2 ^ n → 2 ^ n ≤ f + S → 2 ^ n ≤ f' + S → fo n can dn f S = fo n can dn f' S
  | 0, _, S, hS, h, _ => by omega
  | _ + 1, 0, S, hS, _, h => by omega
  | f + 1, f' + 1, S, hS, h, h' => by
    unfold fo
    by_cases hd : dn S = true
    · rw [if_pos hd, if_pos hd]
    · rw [if_neg hd, if_neg hd]
      have hl : ∀ l : List Nat, (∀ x ∈ l, x < n) → (l.findSome? fun k => if can S k = true then (fo n can dn f (S ||| 2 ^ k)).map (fun l => (k : Int) :: l) else none) = (l.findSome? fun k => if can S k = true then (fo n can dn f' (S ||| 2 ^ k)).map (fun l => (k : Int) :: l) else none) := by
        intro l
        induction l with
        | nil => intro _; rfl
        | cons a l ih =>
          intro hm
          rw [List.findSome?_cons, List.findSome?_cons, ih (fun x hx => hm x (by simp [hx]))]
          by_cases hcan : can S a = true
          · rw [if_pos hcan, if_pos hcan]
            have hg := or_gt (hc S a hcan)
            rw [fo_fuel f f' (S ||| 2 ^ a) (or_lt hS (hm a (by simp))) (by omega) (by omega)]
          · rw [if_neg hcan, if_neg hcan]
      exact hl _ (fun x hx => by simpa using hx)
/-- the first order from a set on -/
def fos (n : Nat) (can : Nat → Nat → Bool) (dn : Nat → Bool) (S : Nat) : Option (List Int) := fo n can dn (2 ^ n) S
/-- the first order that begins with one of the guests from k on -/
def fok (n : Nat) (can : Nat → Nat → Bool) (dn : Nat → Bool) (S k : Nat) : Option (List Int) :=
  ((List.range n).drop k).findSome? fun k => if can S k = true then (fos n can dn (S ||| 2 ^ k)).map (fun l => (k : Int) :: l) else none
theorem fos_done {dn : Nat → Bool} {S : Nat} (h : dn S = true) : fos n can dn S = some [] := by
  unfold fos
  obtain ⟨m, hm⟩ : ∃ m, 2 ^ n = m + 1 := ⟨2 ^ n - 1, by have := Nat.two_pow_pos n; omega⟩
  rw [hm]; unfold fo; rw [if_pos h]
include hc in
theorem fos_go {dn : Nat → Bool} {S : Nat} (hS : S < 2 ^ n) (h : dn S = false) : fos n can dn S = fok n can dn S 0 := by
  unfold fos fok
  obtain ⟨m, hm⟩ : ∃ m, 2 ^ n = m + 1 := ⟨2 ^ n - 1, by have := Nat.two_pow_pos n; omega⟩
  rw [hm, fo, if_neg (by rw [h]; simp), List.drop_zero]
  have hl : ∀ l : List Nat, (∀ x ∈ l, x < n) → (l.findSome? fun k => if can S k = true then (fo n can dn m (S ||| 2 ^ k)).map (fun l => (k : Int) :: l) else none) = (l.findSome? fun k => if can S k = true then (fos n can dn (S ||| 2 ^ k)).map (fun l => (k : Int) :: l) else none) := by
    intro l
    induction l with
    | nil => intro _; rfl
    | cons a l ih =>
      intro hm2
      rw [List.findSome?_cons, List.findSome?_cons, ih (fun x hx => hm2 x (by simp [hx]))]
      by_cases hcan : can S a = true
      · rw [if_pos hcan, if_pos hcan]
        have hg := or_gt (hc S a hcan)
        unfold fos
        rw [fo_fuel hc m (2 ^ n) (S ||| 2 ^ a) (or_lt hS (hm2 a (by simp))) (by omega) (by omega)]
      · rw [if_neg hcan, if_neg hcan]
  exact hl _ (fun x hx => by simpa using hx)
theorem fok_end {dn : Nat → Bool} {S : Nat} : fok n can dn S n = none := by unfold fok; rw [List.drop_of_length_le (by simp)]; rfl
theorem fok_at {dn : Nat → Bool} {S k : Nat} (hk : k < n) : fok n can dn S k = (if can S k = true then (match fos n can dn (S ||| 2 ^ k) with | some l => some ((k : Int) :: l) | none => fok n can dn S (k + 1)) else fok n can dn S (k + 1)) := by
  unfold fok
  rw [List.drop_eq_getElem_cons (by simpa using hk), List.findSome?_cons]
  simp only [List.getElem_range]
  by_cases h : can S k = true
  · simp only [if_pos h]
    cases fos n can dn (S ||| 2 ^ k) <;> rfl
  · simp only [if_neg h]
theorem fok_no {dn : Nat → Bool} {S k : Nat} (hk : k < n) (h : can S k = false) : fok n can dn S k = fok n can dn S (k + 1) := by rw [fok_at hk, if_neg (by rw [h]; simp)]
theorem fok_none {dn : Nat → Bool} {S k : Nat} (hk : k < n) (h : fos n can dn (S ||| 2 ^ k) = none) : fok n can dn S k = fok n can dn S (k + 1) := by
  rw [fok_at hk, h]; simp
theorem fok_some {dn : Nat → Bool} {S k : Nat} {l : List Int} (hk : k < n) (hcan : can S k = true) (h : fos n can dn (S ||| 2 ^ k) = some l) : fok n can dn S k = some ((k : Int) :: l) := by
  rw [fok_at hk, if_pos hcan, h]
/-- an order is there just when a finished set is met -/
theorem fok_iff {dn : Nat → Bool} {S : Nat} : ∀ m k, k + m = n → ((fok n can dn S k).isSome = true ↔ ∃ j, k ≤ j ∧ j < n ∧ can S j = true ∧ (fos n can dn (S ||| 2 ^ j)).isSome = true)
  | 0, k, h => by
    obtain rfl : k = n := by omega
    rw [fok_end]
    constructor
    · intro h; cases h
    · rintro ⟨j, h1, h2, _⟩; omega
  | m + 1, k, h => by
    have ih := fok_iff (dn := dn) (S := S) m (k + 1) (by omega)
    have hk : k < n := by omega
    cases hcan : can S k with
    | false =>
      rw [fok_no hk hcan, ih]
      constructor
      · rintro ⟨j, h1, h2⟩; exact ⟨j, by omega, h2⟩
      · rintro ⟨j, h1, h2, h3, h4⟩
        have : j ≠ k := fun e => by subst e; rw [hcan] at h3; cases h3
        exact ⟨j, by omega, h2, h3, h4⟩
    | true =>
      cases hf : fos n can dn (S ||| 2 ^ k) with
      | some l =>
        rw [fok_some hk hcan hf]
        exact ⟨fun _ => ⟨k, Nat.le_refl _, hk, hcan, by rw [hf]; rfl⟩, fun _ => rfl⟩
      | none =>
        rw [fok_none hk hf, ih]
        constructor
        · rintro ⟨j, h1, h2⟩; exact ⟨j, by omega, h2⟩
        · rintro ⟨j, h1, h2, h3, h4⟩
          have : j ≠ k := fun e => by subst e; rw [hf] at h4; cases h4
          exact ⟨j, by omega, h2, h3, h4⟩
include hc in
theorem fos_iff {dn : Nat → Bool} : ∀ (m S : Nat), S < 2 ^ n → 2 ^ n ≤ m + S → ((fos n can dn S).isSome = true ↔ ∃ T, Rch n can S T ∧ dn T = true)
  | 0, S, h1, h2 => by omega
  | m + 1, S, h1, h2 => by
    cases hd : dn S with
    | true => rw [fos_done hd]; exact ⟨fun _ => ⟨S, .zero, hd⟩, fun _ => rfl⟩
    | false =>
      rw [fos_go hc h1 hd, fok_iff n 0 (by omega)]
      constructor
      · rintro ⟨j, _, hj, hcan, hs⟩
        have hg := or_gt (hc S j hcan)
        obtain ⟨T, hT, hdn⟩ := (fos_iff m (S ||| 2 ^ j) (or_lt h1 hj) (by omega)).1 hs
        exact ⟨T, (Rch.one hj hcan).trans hT, hdn⟩
      · rintro ⟨T, hT, hdn⟩
        rcases hT.head with rfl | ⟨k, hk, hcan, hr⟩
        · rw [hd] at hdn; cases hdn
        · have hg := or_gt (hc S k hcan)
          exact ⟨k, Nat.zero_le _, hk, hcan, (fos_iff m (S ||| 2 ^ k) (or_lt h1 hk) (by omega)).2 ⟨T, hr, hdn⟩⟩
end
end Go.Proofs.Ytedoibgclplnaaa
