/-
Plain laws of FnGuests: the most that can go against the number that want to; orders. No program.
-/
import Derived.Test.YtedoibgclplnaaaRoomM
import Derived.Test.YtedoibgclplnaaaRoomN
namespace Go.Proofs.Ytedoibgclplnaaa
set_option linter.unusedVariables false

theorem popc_succ (n X : Nat) : popc (n + 1) X = popc n X + (if X.testBit n then 1 else 0) := by
  unfold popc; rw [List.range_succ, List.filter_append, List.length_append]
  cases hX : X.testBit n <;> simp [hX]
theorem popc_mono {S T : Nat} (h : ∀ j, S.testBit j = true → T.testBit j = true) : ∀ n, popc n S ≤ popc n T
  | 0 => by simp [popc]
  | n + 1 => by
    have ih := popc_mono h n
    rw [popc_succ, popc_succ]
    cases hS : S.testBit n with
    | true => rw [h n hS]; simp; exact ih
    | false => simp; omega
theorem sub_eq {n S T : Nat} (h : ∀ j, S.testBit j = true → T.testBit j = true) (hT : T < 2 ^ n) (hp : popc n S = popc n T) : S = T := by
  apply Nat.eq_of_testBit_eq
  intro j
  cases hS : S.testBit j with
  | true => exact (h j hS).symm
  | false =>
    cases hTj : T.testBit j with
    | false => rfl
    | true =>
      exfalso
      have hj : j < n := by
        rcases Nat.lt_or_ge j n with h1 | h1
        · exact h1
        · have := Nat.testBit_lt_two_pow (Nat.lt_of_lt_of_le hT (Nat.pow_le_pow_right (by omega) h1))
          rw [this] at hTj; cases hTj
      have h2 := popc_or hj hS
      have h3 := popc_mono (S := S ||| 2 ^ j) (T := T) (fun i hi => by
        rw [testBit_or_pow] at hi
        rcases Bool.or_eq_true _ _ ▸ hi with h4 | h4
        · exact h i h4
        · have : j = i := of_decide_eq_true h4
          subst this; exact hTj) n
      omega
theorem popc_mov {ts : List Guest} : ∀ k, k ≤ ts.length → ((popc k (movL ts ts.length) : Nat) : Int) = cntL ts k
  | 0, _ => by simp [popc, cntL]
  | k + 1, hk => by
    have ih := popc_mov (ts := ts) k (by omega)
    have hb := mov_bit (ts := ts) (k := ts.length) (j := k) (Nat.le_refl _)
    have hlt : k < ts.length := by omega
    rw [popc_succ, cntL_succ hlt, hb]
    simp only [hlt, decide_true, Bool.true_and, List.getElem?_eq_getElem]
    cases hr : restB ts[k] <;> simp [ih]
/-- the most that can go, against those that want to -/
theorem most_le {rooms : List Int} {ts : List Guest} : ((mxK ts.length (canS rooms ts) (2 ^ ts.length) : Nat) : Int) ≤ cntL ts ts.length := by
  obtain ⟨⟨T, h1, h2⟩, _⟩ := mxK_most ts.length (canS rooms ts)
  have h3 := popc_mono (rch_sub h1) ts.length
  rw [popc_zero, Nat.zero_add] at h2
  rw [← popc_mov ts.length (Nat.le_refl _), ← h2]
  exact Int.ofNat_le.2 h3
theorem most_all {rooms : List Int} {ts : List Guest} (h8 : ts.length ≤ 8) : (((mxK ts.length (canS rooms ts) (2 ^ ts.length) : Nat) : Int) = cntL ts ts.length) ↔ (fos ts.length (canS rooms ts) (dnS ts) 0).isSome = true := by
  rw [order_iff, ← popc_mov ts.length (Nat.le_refl _)]
  obtain ⟨⟨T, h1, h2⟩, h3⟩ := mxK_most ts.length (canS rooms ts)
  rw [popc_zero, Nat.zero_add] at h2
  constructor
  · intro h
    have h4 : popc ts.length T = popc ts.length (movL ts ts.length) := by rw [h2]; exact Int.ofNat_inj.1 h
    have h5 := sub_eq (rch_sub h1) (mov_lt h8 (Nat.le_refl _)) h4
    rw [← h5]; exact h1
  · intro h
    have h4 := h3 _ h
    rw [popc_zero, Nat.zero_add] at h4
    have h5 := popc_mono (rch_sub h1) ts.length
    have : popc ts.length (movL ts ts.length) = mxK ts.length (canS rooms ts) (2 ^ ts.length) := by omega
    rw [this]
/-- some guest can go, so one at least goes -/
theorem most_pos {rooms : List Int} {ts : List Guest} {k : Nat} (hk : k < ts.length) (h : canP rooms ts ts[k] = true) : 1 ≤ mxK ts.length (canS rooms ts) (2 ^ ts.length) := by
  obtain ⟨_, h3⟩ := mxK_most ts.length (canS rooms ts)
  have hc : canS rooms ts 0 k = true := by
    have hk2 : k < (gn ts 0).length := by rw [gn_len]; exact hk
    have e : gn ts 0 = ts := gn_zero ts
    rw [canS_at hk2]
    simp only [e]; exact h
  have h4 := h3 _ (Rch.one hk hc)
  rw [popc_or hk (by simp), popc_zero] at h4
  omega
end Go.Proofs.Ytedoibgclplnaaa
