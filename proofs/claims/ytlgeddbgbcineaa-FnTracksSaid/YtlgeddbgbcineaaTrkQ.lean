/-
a2Sum of the laws, and what the drawn readings tell. Condition: small numbers.
-/
import Derived.Test.YtlgeddbgbcineaaSeenA
import Derived.Test.YtlgeddbgbcineaaSensH
import Derived.Test.YtlgeddbgbcineaaTrkI
import Derived.Test.YtlgeddbgbcineaaFewI
namespace Go.Proofs.Ytlgeddbgbcineaa
open Go.RowKit
set_option linter.unusedVariables false

theorem sum_take_bd {xs : List Int} (h : ∀ x ∈ xs, 0 ≤ x ∧ x ≤ 1048576) : ∀ k, k ≤ xs.length → 0 ≤ (xs.take k).sum ∧ (xs.take k).sum ≤ (k : Int) * 1048576
  | 0, _ => by simp
  | k + 1, hk => by
    have ih := sum_take_bd h k (by omega)
    have hx := h _ (List.getElem_mem (show k < xs.length by omega))
    rw [List.take_succ_eq_append_getElem (by omega), List.sum_append]
    simp only [List.sum_cons, List.sum_nil]
    omega
theorem a2Sum_any (v : Value) (xs : List Int) (w : World) (hv : SlI w v xs) (hl : xs.length ≤ 1048576) (hb : ∀ x ∈ xs, 0 ≤ x ∧ x ≤ 1048576) :
    Calls Try.prog 46 #[v] w fun e w' => e = .returned (.int .i64 xs.sum) ∧ w = w' := by
  obtain ⟨A, c, rfl, _, ha⟩ := hv.op
  have HA := Lib.hid ha; have HBD := Lib.hid (sum_take_bd hb); have HBX := Lib.hid hb
  clear hv ha hb
  go_enter Try.func46, Try.ntmps46
  go_wp2
  go_loop [3, 4] (fun s i => ∃ k : Nat, k ≤ xs.length ∧ i = .int .i64 k ∧ s = .int .i64 (xs.take k).sum) (fun _ i => xs.length - (intOf i).toNat)
  case atStart => exact ⟨0, Nat.zero_le _, rfl, by simp⟩
  case round =>
    obtain ⟨k, hk, rfl, rfl⟩ := hrel
    obtain ⟨hs0, hs1⟩ := HBD.out k hk
    by_cases hlt : k < xs.length
    · have hki : (k : Int) < (xs.length : Int) := by omega
      obtain ⟨b, o, rfl, hb, hc⟩ := HA.out k hlt
      have hx := hc k hlt
      obtain ⟨hx0, hx1⟩ := HBX.out _ (List.getElem_mem hlt)
      have HS : Hid ((xs.take (k + 1)).sum = (xs.take k).sum + xs[k]) := Lib.hid (by rw [List.take_succ_eq_append_getElem hlt, List.sum_append]; simp)
      generalize xs[k] = y at hx hx0 hx1 HS
      generalize (xs.take k).sum = s at hs0 hs1 HS ⊢
      clear hc
      go_wp2
      go_round
      case rel => exact ⟨k + 1, by omega, by go_num, by rw [HS.out]; try go_num⟩
      case measure => simp [intOf]; omega
    · have hki : ¬ ((k : Int) < (xs.length : Int)) := by omega
      have HE : Hid (xs.sum = (xs.take k).sum) := Lib.hid (by rw [List.take_of_length_le (by omega)])
      generalize (xs.take k).sum = s at hs0 hs1 HE ⊢
      go_wp2
      go_ret
      exact ⟨ret_int HE.out.symm, rfl⟩
/-- what drawn readings tell -/
structure TracksK (gs : List (List Int)) (ts : List Reading) (few m : Nat) (TR : List (List Int)) (CT LS : List Int) : Prop where
  fr : fewR gs ts = ((few : Int), 0)
  trk : trkR gs ts = (TR, 0)
  trl : TR.length = few
  are : arR gs ts TR = (true, 0)
  seen : seenR gs ts = (CT, 0)
  ctl : CT.length = m
  ml : m = gs.length + 1
  cts : CT.sum = (ts.length : Int)
  ctb : ∀ x ∈ CT, 0 ≤ x ∧ x ≤ 1048576
  ctf : ∀ (i : Nat) (h : i < CT.length), CT[i] ≤ (few : Int)
  lost : lostR gs ts TR = (LS, 0)
  lsl : LS.length = m
  lss : LS.sum ≤ (few : Int)
  lsb : ∀ x ∈ LS, 0 ≤ x ∧ x ≤ 1048576
  sing : arR gs ts (snG ts.length) = (true, 0)
  fewl : few ≤ ts.length
theorem tracks_tell {gs : List (List Int)} {ts : List Reading} (h : readsOk gs ts = true) : ∃ few m TR CT LS, TracksK gs ts few m TR CT LS := by
  have h14 := (readsOk_ok h).2.1
  have hc : ∀ tr, idxOk ts.length tr = true → codeT gs ts tr = 0 := fun tr hi => by unfold codeT; rw [if_pos h, if_pos hi]
  have hfl := fewG_le gs ts
  obtain ⟨c1, c2⟩ := seenK_inv ts (gs.length + 1) ts.length (Nat.le_refl _)
  have htl := trG_len gs ts
  obtain ⟨l1, l2⟩ := lostS_inv (m := gs.length) (ts := ts) (tr := trG gs ts) (trG gs ts).length (Nat.le_refl _)
  refine ⟨fewG gs ts, gs.length + 1, trG gs ts, seenK ts (gs.length + 1) ts.length, lostS gs.length ts (trG gs ts) (trG gs ts).length, ?_⟩
  refine ⟨by unfold fewR; rw [if_pos h], by unfold trkR; rw [if_pos h], htl, ?_, by unfold seenR; rw [if_pos h], c1, rfl, seen_sum h _ (Nat.le_refl _), ?_, fun i hi => seen_few h i hi, ?_, l1, ?_, ?_, ?_, hfl⟩
  · unfold arR; rw [if_pos (hc _ (trG_idx h)), trG_are h]
  · intro x hx; have := c2 x hx; omega
  · unfold lostR; rw [if_pos (hc _ (trG_idx h)), if_pos (trG_are h)]
  · have := lost_sum (m := gs.length) (ts := ts) (tr := trG gs ts) _ (Nat.le_refl _); omega
  · intro x hx; have := l2 x hx; omega
  · unfold arR; rw [if_pos (hc _ (snG_idx _)), snG_are]
end Go.Proofs.Ytlgeddbgbcineaa
