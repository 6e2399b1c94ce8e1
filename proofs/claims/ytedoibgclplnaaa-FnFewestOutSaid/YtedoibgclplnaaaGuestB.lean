/-
Plain laws of FnGuests: the told order runs through, and is as long as those that want to are many; who can go, and what GoOne tells. No program.
-/
import Derived.Test.YtedoibgclplnaaaGuestA
namespace Go.Proofs.Ytedoibgclplnaaa
set_option linter.unusedVariables false

/-- the guests of a list go one after the other till all are done -/
def RunsTo (rooms : List Int) (ts : List Guest) : List Int → Nat → Prop
  | [], S => dnS ts S = true
  | k :: l, S => ∃ j : Nat, k = (j : Int) ∧ j < ts.length ∧ canS rooms ts S j = true ∧ RunsTo rooms ts l (S ||| 2 ^ j)
theorem fosS_runs {rooms : List Int} {ts : List Guest} : ∀ (m S : Nat) (l : List Int), S < 2 ^ ts.length → 2 ^ ts.length ≤ m + S → fosS rooms ts S = some l → RunsTo rooms ts l S
  | 0, S, l, h1, h2, _ => by omega
  | m + 1, S, l, h1, h2, h => by
    unfold fosS at h
    cases hd : dnS ts S with
    | true => rw [fos_done hd] at h; cases h; exact hd
    | false =>
      rw [fos_go (fun _ _ h => canS_bit h) h1 hd] at h
      have key : ∀ j k, k + j = ts.length → fok ts.length (canS rooms ts) (dnS ts) S k = some l → RunsTo rooms ts l S := by
        intro j
        induction j with
        | zero => intro k hk h; obtain rfl : k = ts.length := by omega
                  rw [fok_end] at h; cases h
        | succ j ih =>
          intro k hk h
          have hkl : k < ts.length := by omega
          cases hcan : canS rooms ts S k with
          | false => rw [fok_no hkl hcan] at h; exact ih (k + 1) (by omega) h
          | true =>
            cases hf : fos ts.length (canS rooms ts) (dnS ts) (S ||| 2 ^ k) with
            | none => rw [fok_none hkl hf] at h; exact ih (k + 1) (by omega) h
            | some l' =>
              rw [fok_some hkl hcan hf] at h
              cases h
              have hg := or_gt (canS_bit hcan)
              exact ⟨k, rfl, hkl, hcan, fosS_runs m (S ||| 2 ^ k) l' (or_lt h1 hkl) (by omega) hf⟩
      exact key ts.length 0 (by omega) h
theorem runs_len {rooms : List Int} {ts : List Guest} : ∀ (l : List Int) (S : Nat), Rch ts.length (canS rooms ts) 0 S → RunsTo rooms ts l S → l.length + popc ts.length S = popc ts.length (movL ts ts.length)
  | [], S, hr, h => by rw [(dn_eq hr).1 h]; simp
  | k :: l, S, hr, ⟨j, _, hj, hc, h⟩ => by
    have ih := runs_len l _ (hr.step hj hc) h
    rw [popc_or hj (canS_bit hc)] at ih
    simp; omega
/-- an order that is told -/
theorem order_tells {rooms : List Int} {ts : List Guest} {l : List Int} (h : fosS rooms ts 0 = some l) : (l.length : Int) = cntL ts ts.length ∧ RunsTo rooms ts l 0 := by
  have h1 := fosS_runs (2 ^ ts.length) 0 l (Nat.two_pow_pos _) (by omega) h
  have h2 := runs_len l 0 .zero h1
  rw [popc_zero, Nat.add_zero] at h2
  exact ⟨by rw [h2]; exact popc_mov _ (Nat.le_refl _), h1⟩
/-- one goes -/
theorem goR_step {rooms : List Int} {ts : List Guest} {S j : Nat} (hok : roomsOk rooms ts = true) (hr : Rch ts.length (canS rooms ts) 0 S) (hj : j < ts.length) (hc : canS rooms ts S j = true) : goR rooms (gn ts S) (j : Int) = (gn ts (S ||| 2 ^ j), 0) := by
  have h1 := gn_ok hok hr
  have hj2 : j < (gn ts S).length := by rw [gn_len]; exact hj
  have hcp := hc
  rw [canS_at hj2] at hcp
  have hrest : restB (gn ts S)[j] = false := by
    cases hb : restB (gn ts S)[j] with
    | false => rfl
    | true => simp [canP, hb] at hcp
  unfold goR
  rw [if_pos h1, if_pos (inB_iff.2 ⟨by omega, by rw [gn_len]; omega⟩)]
  simp only [Int.toNat_natCast, List.getElem?_eq_getElem hj2]
  rw [if_neg (by rw [hrest]; simp), if_pos hcp, gn_set hj (canS_bit hc)]
/-- what GoOne tells of one guest -/
theorem goR_one {rooms : List Int} {ts : List Guest} {k : Nat} (hok : roomsOk rooms ts = true) (hk : k < ts.length) : (goR rooms ts (k : Int)).2 = if restB ts[k] = true then 6 else if canP rooms ts ts[k] = true then 0 else 5 := by
  unfold goR
  rw [if_pos hok, if_pos (inB_iff.2 ⟨by omega, by omega⟩)]
  simp only [Int.toNat_natCast, List.getElem?_eq_getElem hk]
  split
  · rfl
  · split <;> rfl
theorem canK_has {rooms : List Int} {ts : List Guest} {k : Nat} (hk : k < ts.length) : (canK rooms ts ts.length).contains (k : Int) = canP rooms ts ts[k] := by
  rw [Bool.eq_iff_iff, List.contains_iff_mem]
  unfold canK
  rw [List.mem_map]
  constructor
  · rintro ⟨i, hi, he⟩
    rw [List.mem_filter] at hi
    have : i = k := by omega
    subst this
    simpa [hk] using hi.2
  · intro h
    exact ⟨k, List.mem_filter.2 ⟨by simpa using hk, by simpa [hk] using h⟩, rfl⟩
/-- none can go, though some want to: no order -/
theorem stuck_none {rooms : List Int} {ts : List Guest} (h0 : canK rooms ts ts.length = []) (hw : ∃ (k : Nat) (hk : k < ts.length), restB ts[k] = false) : fosS rooms ts 0 = none := by
  cases hf : fosS rooms ts 0 with
  | none => rfl
  | some l =>
    exfalso
    obtain ⟨k, hk, hr⟩ := hw
    have h1 := (order_tells hf).2
    cases l with
    | nil =>
      have h2 : dnS ts 0 = true := h1
      have h3 : (gn ts 0).all restB = true := h2
      rw [gn_zero] at h3
      have := List.all_eq_true.1 h3 _ (List.getElem_mem hk)
      rw [hr] at this; cases this
    | cons a l =>
      obtain ⟨j, _, hj, hc, _⟩ := h1
      have hj2 : j < (gn ts 0).length := by rw [gn_len]; exact hj
      have e : gn ts 0 = ts := gn_zero ts
      rw [canS_at hj2] at hc
      simp only [e] at hc
      have h4 := canK_has (rooms := rooms) hj
      rw [hc, h0] at h4
      simp at h4
end Go.Proofs.Ytedoibgclplnaaa
