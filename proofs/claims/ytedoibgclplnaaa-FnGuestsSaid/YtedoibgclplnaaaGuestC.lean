/-
Plain law of FnGuests: what the five answers tell, together. No program.
-/
import Derived.Test.YtedoibgclplnaaaGuestB
namespace Go.Proofs.Ytedoibgclplnaaa
set_option linter.unusedVariables false

theorem ordR_eq {rooms : List Int} {ts : List Guest} (hok : roomsOk rooms ts = true) : ordR rooms ts = (match fosS rooms ts 0 with | some l => (l, 0) | none => ([], 10)) := by unfold ordR; rw [hok]; rfl
theorem any_cnt (ts : List Guest) : ts.any (fun g => !restB g) = decide (0 < cntL ts ts.length) := by
  rw [Bool.eq_iff_iff, List.any_eq_true, decide_eq_true_iff]
  unfold cntL
  rw [List.take_length]
  constructor
  · rintro ⟨g, hg, hr⟩
    have h9 : 0 < ts.countP (fun g => !restB g) := List.countP_pos_iff.2 ⟨g, hg, hr⟩
    omega
  · intro h
    have h2 : 0 < ts.countP (fun g => !restB g) := by omega
    exact List.countP_pos_iff.1 h2
/-- what the answers tell -/
structure GuestsK (rooms : List Int) (ts : List Guest) (F CN LO : List Int) (st : Bool) (oc mo : Int) : Prop where
  flen : F.length = rooms.length
  has : ∀ (k : Nat) (hk : k < ts.length), CN.contains (k : Int) = canP rooms ts ts[k]
  can : ∀ g, canP rooms ts g = (!restB g && (decide (g.wants < 0) || decide (0 < F.getD g.wants.toNat 0)))
  go : ∀ (k : Nat) (hk : k < ts.length), (goR rooms ts (k : Int)).2 = if restB ts[k] = true then 6 else if canP rooms ts ts[k] = true then 0 else 5
  mo0 : 0 ≤ mo
  mo1 : mo ≤ cntL ts ts.length
  mo2 : 0 < CN.length → 1 ≤ mo
  stk : st = (decide (CN.length = 0) && decide (0 < cntL ts ts.length))
  sto : st = true → oc = 10
  ord : (oc = 0 ∧ mo = cntL ts ts.length ∧ (LO.length : Int) = cntL ts ts.length ∧ RunsTo rooms ts LO 0) ∨ (oc = 10 ∧ mo ≠ cntL ts ts.length)
  fit : ∀ (k : Nat) (hk : k < ts.length), Guest.fits (lastR rooms) ts[k] = true
  fbd : ∀ x ∈ F, x ≤ 4
theorem guests_tells {rooms : List Int} {ts : List Guest} (hok : roomsOk rooms ts = true) : ∃ (F CN LO : List Int) (st : Bool) (oc mo : Int),
    freeR rooms ts = (F, 0) ∧ canR rooms ts = (CN, 0) ∧ stuckR rooms ts = (st, 0) ∧ ordR rooms ts = (LO, oc) ∧ mostR rooms ts = (mo, 0) ∧ GuestsK rooms ts F CN LO st oc mo := by
  obtain ⟨_, hr4, h8, hfit, _⟩ := roomsOk_at hok
  have hst : stuckR rooms ts = (decide ((canK rooms ts ts.length).length = 0) && ts.any (fun g => !restB g), 0) := by unfold stuckR; rw [if_pos hok]
  have hwant : ts.any (fun g => !restB g) = true → ∃ (k : Nat) (hk : k < ts.length), restB ts[k] = false := fun h => by
    obtain ⟨g, hg, hr⟩ := List.any_eq_true.1 h
    obtain ⟨k, hk, e⟩ := List.mem_iff_getElem.1 hg
    exact ⟨k, hk, by rw [e]; simpa using hr⟩
  have hmo2 : 0 < (canK rooms ts ts.length).length → 1 ≤ ((mxK ts.length (canS rooms ts) (2 ^ ts.length) : Nat) : Int) := fun h => by
    have hm := List.getElem_mem h
    unfold canK at hm
    obtain ⟨i, hi, he⟩ := List.mem_map.1 hm
    rw [List.mem_filter] at hi
    have hil : i < ts.length := by simpa using hi.1
    have := most_pos hil (by simpa [hil] using hi.2 : canP rooms ts ts[i] = true)
    omega
  refine ⟨freeK rooms ts ts.length, canK rooms ts ts.length, (ordR rooms ts).1, _, (ordR rooms ts).2, ((mxK ts.length (canS rooms ts) (2 ^ ts.length) : Nat) : Int),
    by unfold freeR; rw [if_pos hok], by unfold canR; rw [if_pos hok], hst, rfl, by unfold mostR; rw [if_pos hok], ?_⟩
  have hall := most_all (rooms := rooms) h8
  exact {
    flen := (freeK_inv hr4 ts ts.length (Nat.le_refl _)).1
    has := fun k hk => canK_has hk
    can := fun g => rfl
    go := fun k hk => goR_one hok hk
    mo0 := by omega
    mo1 := most_le
    mo2 := hmo2
    stk := by rw [any_cnt]
    sto := fun h => by
      rw [Bool.and_eq_true, decide_eq_true_iff] at h
      have h1 := stuck_none (List.eq_nil_of_length_eq_zero h.1) (hwant h.2)
      rw [ordR_eq hok, h1]
    ord := by
      rw [ordR_eq hok]
      cases hf : fosS rooms ts 0 with
      | some l =>
        have h1 := order_tells hf
        exact .inl ⟨rfl, hall.2 (by show (fosS rooms ts 0).isSome = true; rw [hf]; rfl), h1.1, h1.2⟩
      | none =>
        refine .inr ⟨rfl, fun h => ?_⟩
        have h1 := hall.1 h
        have h2 : (fosS rooms ts 0).isSome = true := h1
        rw [hf] at h2; cases h2
    fit := hfit
    fbd := fun x hx => ((freeK_inv hr4 ts ts.length (Nat.le_refl _)).2 x hx).2 }
end Go.Proofs.Ytedoibgclplnaaa
