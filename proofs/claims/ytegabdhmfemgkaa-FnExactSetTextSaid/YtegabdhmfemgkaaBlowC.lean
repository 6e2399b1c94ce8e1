/-
Codes of sets, PowerOf, CostOfDay, MeetsNeeds, CheapestHour of the program and of the reference, by their contracts. Condition: the slices read as lists.
-/
import Derived.Test.YtegabdhmfemgkaaBlowB
namespace Go.Proofs.Ytegabdhmfemgkaa
open Go.RowKit
set_option linter.unusedVariables false

/-- the code of blowers and sets -/
def codeS (ts : List Blower) (ss : List Int) : Int := if blowersOk ts then (if decide (24 < ss.length) || outB ss 0 (lastB ts.length) then 2 else 0) else 1
theorem codeS_bad {ts : List Blower} {ss : List Int} (h : blowersOk ts = false) : codeS ts ss = 1 := by simp [codeS, h]
theorem codeS_ok {ts : List Blower} {ss : List Int} (h : codeS ts ss = 0) : blowersOk ts = true ∧ ss.length ≤ 24 ∧ ∀ x ∈ ss, 0 ≤ x ∧ x ≤ 15 := by
  unfold codeS at h
  split at h
  · rename_i hb
    split at h
    · cases h
    · rename_i hc
      simp only [Bool.or_eq_true, decide_eq_true_eq, not_or, Bool.not_eq_true] at hc
      refine ⟨hb, by omega, fun x hx => ?_⟩
      have h1 := outB_false.1 hc.2 x hx
      have h2 := lastB_le (blowersOk_at hb).1
      omega
  · cases h
theorem codeS_or (ts : List Blower) (ss : List Int) : codeS ts ss = 0 ∨ codeS ts ss = 1 ∨ codeS ts ss = 2 := by unfold codeS; split <;> (try split) <;> simp

theorem setsCode_any (v u : Value) (ts : List Blower) (ss : List Int) (w : World) (hv : SlBlower w v ts) (hu : SlI w u ss) :
    Calls Try.prog 57 #[v, u] w fun e w' => e = .returned (.int .i64 (codeS ts ss)) ∧ Below w.heap.size w w' := by
  have HV := Lib.hid hv; have HU := Lib.hid hu
  obtain ⟨A, c, rfl, hla, _⟩ := hv.op
  obtain ⟨B, d, rfl, hlb, _⟩ := hu.op
  clear hv hu
  cases hok : blowersOk ts with
  | false =>
    have E : Hid (codeS ts ss = 1) := codeS_bad hok
    go_enter Try.func57, Try.ntmps57
    go_wp2_with fail
    refine (validBlowers_any _ ts _ HV.out).mono ?_
    rintro e w1 ⟨rfl, hb1⟩
    rw [hok]
    go_wp2
    go_ret
    exact ⟨ret_int E.out.symm, hb1⟩
  | true =>
    have hl4 := (blowersOk_at hok).1
    by_cases h24 : 24 < ss.length
    · have E : Hid (codeS ts ss = 2) := Lib.hid <| by simp [codeS, hok, h24]
      have h24i : (24 : Int) < (ss.length : Int) := by omega
      go_enter Try.func57, Try.ntmps57
      go_wp2_with fail
      refine (validBlowers_any _ ts _ HV.out).mono ?_
      rintro e w1 ⟨rfl, hb1⟩
      rw [hok]
      go_wp2
      go_ret
      exact ⟨ret_int E.out.symm, hb1⟩
    · have h24i : ¬ (24 : Int) < (ss.length : Int) := by omega
      have E : Hid (codeS ts ss = if outB ss 0 (lastB ts.length) then 2 else 0) := Lib.hid <| by simp [codeS, hok, h24]
      go_enter Try.func57, Try.ntmps57
      go_wp2_with fail
      refine (validBlowers_any _ ts _ HV.out).mono ?_
      rintro e w1 ⟨rfl, hb1⟩
      rw [hok]
      go_wp2_with fail
      refine (lastSet_any _ _ _ _ hl4).mono ?_
      rintro e w2 ⟨rfl, rfl⟩
      go_wp2_with fail
      refine (outside_any _ ss _ _ _ (HU.out.ex hb1)).mono ?_
      rintro e w2 ⟨rfl, hb2⟩
      cases ho : outB ss 0 (lastB ts.length)
      all_goals
        go_wp2
        go_ret
        exact ⟨ret_int (by rw [E.out, ho]; rfl), below_next0 hb1 hb2⟩

/-- PowerOf -/
def powR (ts : List Blower) (s : Int) : Int × Int := if blowersOk ts then (if inB s 0 (lastB ts.length) then (powT ts s, 0) else (0, 2)) else (0, 1)
theorem set_bd {ts : List Blower} {s : Int} (h : blowersOk ts = true) (hs : inB s 0 (lastB ts.length) = true) : 0 ≤ s ∧ s ≤ 15 := by
  have h1 := lastB_le (blowersOk_at h).1; have h2 := inB_iff.1 hs; omega

/-- a slice literal of one number -/
theorem slI_one (w : World) (s : Int) (e : TypeId) : SlI (w.alloc (.cells #[.int .i64 s] e)) (.slice (some ⟨w.heap.size, 0, none⟩) 1 1) [s] :=
  ⟨some ⟨w.heap.size, 0, none⟩, 1, rfl, rfl, by simp, fun _ => ⟨w.heap.size, 0, rfl, by simp, fun k hk => by
    have : k = 0 := by simpa using hk
    subst this; simp⟩⟩
theorem codeS_one (ts : List Blower) (s : Int) : codeS ts [s] = if blowersOk ts then (if inB s 0 (lastB ts.length) then 0 else 2) else 1 := by
  unfold codeS
  cases blowersOk ts <;> cases h : inB s 0 (lastB ts.length) <;> simp [outB, h]

/-- what the first k sets cost -/
def costS (ts : List Blower) (ss : List Int) : Nat → Int
  | 0 => 0
  | k + 1 => costS ts ss k + stepT ts (if k = 0 then 0 else ss.getD (k - 1) 0) (ss.getD k 0)
def prevS (ss : List Int) (k : Nat) : Int := if k = 0 then 0 else ss.getD (k - 1) 0
theorem costS_succ {ts : List Blower} {ss : List Int} {k : Nat} (hk : k < ss.length) : costS ts ss (k + 1) = costS ts ss k + stepT ts (prevS ss k) ss[k] := by
  simp [costS, prevS, List.getD_eq_getElem?_getD, hk]
theorem prevS_succ {ss : List Int} {k : Nat} (hk : k < ss.length) : prevS ss (k + 1) = ss[k] := by simp [prevS, List.getD_eq_getElem?_getD, hk]
theorem prevS_bd {ss : List Int} (h : ∀ x ∈ ss, 0 ≤ x ∧ x ≤ 15) {k : Nat} (hk : k ≤ ss.length) : 0 ≤ prevS ss k ∧ prevS ss k ≤ 15 := by
  cases k with
  | zero => simp [prevS]
  | succ k => rw [prevS_succ (by omega)]; exact h _ (List.getElem_mem _)
theorem costS_bd {ts : List Blower} (h : blowersOk ts = true) (ss : List Int) : ∀ k : Nat, 0 ≤ costS ts ss k ∧ costS ts ss k ≤ 80000 * (k : Int)
  | 0 => by simp [costS]
  | k + 1 => by
    have ih := costS_bd h ss k
    have hb := stepT_bd h (if k = 0 then 0 else ss.getD (k - 1) 0) (ss.getD k 0)
    rw [costS]; omega
def costR (ts : List Blower) (ss : List Int) : Int × Int := if codeS ts ss = 0 then (costS ts ss ss.length, 0) else (0, codeS ts ss)

end Go.Proofs.Ytegabdhmfemgkaa
