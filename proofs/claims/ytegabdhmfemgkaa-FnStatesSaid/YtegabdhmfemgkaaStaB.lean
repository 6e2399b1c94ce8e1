/-
Contracts of FnStates: rising numbers, a number out of bytes, the row of places that the law makes and counts up. Conditions: the slices read as lists.
-/
import Derived.Test.YtegabdhmfemgkaaStaA
import Derived.Test.YtegabdhmfemgkaaDrP
import Derived.Test.YtegabdhmfemgkaaPolV
import Derived.Test.YtegabdhmfemgkaaPolRA
import Derived.BigQuiet
namespace Go.Proofs.Ytegabdhmfemgkaa
open Go.RowKit
set_option linter.unusedVariables false
set_option linter.unusedSimpArgs false

theorem a2Long_any (v u : Value) (bs ms : List Int) (w : World) (hv : SlB w v bs) (hu : SlB w u ms) :
    Calls Try.prog 21 #[v, u] w fun e w' => e = .returned (.bool (decide (3000 < bs.length) || decide (3000 < ms.length))) ∧ w = w' := by
  obtain ⟨A, c, rfl, hl⟩ := hv.op
  obtain ⟨B, d, rfl, hl2⟩ := hu.op
  clear hv hu
  by_cases h : 3000 < bs.length
  · go_enter Try.func21, Try.ntmps21
    go_wp2
    go_ret
    exact ⟨ret_bool (by first | (rw [Bool.eq_iff_iff]; done) | (rw [Bool.eq_iff_iff]; simp; done) | (rw [Bool.eq_iff_iff]; simp; omega)), rfl⟩
  · go_enter Try.func21, Try.ntmps21
    go_wp2
    go_ret
    exact ⟨ret_bool (by first | (rw [Bool.eq_iff_iff]; done) | (rw [Bool.eq_iff_iff]; simp; done) | (rw [Bool.eq_iff_iff]; simp; omega)), rfl⟩
theorem slB_nil (w : World) : SlB w (.slice none 0 0) [] := ⟨⟨none, 0, rfl, by simp, fun h => absurd h (by simp)⟩, by simp⟩
theorem a2Rises_any (v : Value) (xs : List Int) (n : Int) (w : World) (hv : SlI w v xs) (hr : ∀ (k : Nat) (hk : k < xs.length), 0 ≤ xs[k] ∧ xs[k] < n ∧ ∀ (h0 : 0 < k), xs[k - 1] < xs[k]) :
    Calls Try.prog 39 #[v, .int .i64 n] w fun e w' => e = .returned (.bool true) ∧ Below w.heap.size w w' := by
  obtain ⟨A, c, rfl, hla, ha⟩ := hv.op
  have HA := Lib.hid ha; have HRS := Lib.hid hr
  clear hv ha hr
  go_enter Try.func39, Try.ntmps39
  go_wp2
  go_loopw [5] (fun i wr => ∃ k : Nat, k ≤ xs.length ∧ i = .int .i64 k ∧ Hid (Below w.heap.size w wr)) (fun i _ => xs.length - (intOf i).toNat)
  case atStart => exact ⟨0, Nat.zero_le _, rfl, Lib.hid (Below.refl _ _)⟩
  case round =>
    obtain ⟨k, hk, rfl, HR⟩ := hrel
    by_cases hlt : k < xs.length
    · obtain ⟨b1, o1, rfl, hbs, hcc⟩ := HA.out k hlt
      have hx := (HR.out.cell (p := ⟨b1, o1 + k, none⟩) hbs).trans (hcc k hlt)
      obtain ⟨h0, h1, h2⟩ := HRS.out k hlt
      have hlti : (k : Int) < (xs.length : Int) := by omega
      by_cases hk0 : k = 0
      · subst hk0
        have hkd : decide ((0 : Nat) < 0) = false := rfl
        generalize xs[0] = x at hx h0 h1
        have hx : wr.cell? ⟨b1, o1, none⟩ = some (.int .i64 x) := hx
        have hd0 : decide (x < 0) = false := decide_eq_false (by omega)
        have hd1 : decide (n ≤ x) = false := decide_eq_false (by omega)
        clear hcc h2
        go_wp2
        go_quiet (fail)
        go_wp2
        go_roundw
        case rel => exact ⟨1, by omega, by first | rfl | go_num, Lib.hid (below_drewN HR.out _)⟩
        case measure => simp [intOf]; omega
      · have hy := (HR.out.cell (p := ⟨b1, o1 + (k - 1), none⟩) hbs).trans (hcc (k - 1) (by omega))
        have h3 := h2 (by omega)
        have hkp : decide (0 < k) = true := decide_eq_true (by omega)
        have e1 : ((k : Int) - 1).toNat = k - 1 := by omega
        have e2 : 0 ≤ (k : Int) - 1 := by omega
        have e3 : (k : Int) - 1 < (xs.length : Int) := by omega
        generalize xs[k] = x at hx h0 h1 h3
        generalize xs[k - 1] = y at hy h3
        have hd0 : decide (x < 0) = false := decide_eq_false (by omega)
        have hd1 : decide (n ≤ x) = false := decide_eq_false (by omega)
        have hd2 : decide (x ≤ y) = false := decide_eq_false (by omega)
        clear hcc h2
        go_wp2
        go_quiet (fail)
        go_wp2
        go_roundw
        case rel => exact ⟨k + 1, by omega, by go_num, Lib.hid (below_drewN HR.out _)⟩
        case measure => simp [intOf]; omega
    · have hkn : k = xs.length := by omega
      subst hkn
      go_wp2
      go_ret
      exact ⟨rfl, HR.out⟩
theorem a2At_any (v : Value) (bs : List Int) (k : Nat) (n : Int) (w : World) (hv : SlB w v bs) (hk : k ≤ 1048576) (hn : 1 ≤ n) (hn2 : n ≤ 1048576) :
    Calls Try.prog 40 #[v, .int .i64 k, .int .i64 n] w fun e w' => ∃ x : Int, 0 ≤ x ∧ x < n ∧ e = .returned (.int .i64 x) ∧ w = w' := by
  obtain ⟨⟨A, c, rfl, hl, hc⟩, hby⟩ := hv
  by_cases hkl : k < bs.length
  · obtain ⟨b, o, rfl, hb, hcell⟩ := hc (by simp; omega)
    have hx := hcell k (by simpa using hkl)
    rw [List.getElem_map] at hx
    obtain ⟨hb0, hb1⟩ := hby _ (List.getElem_mem hkl)
    have hki : ¬ ((bs.length : Int) ≤ (k : Int)) := by omega
    have hki2 : (k : Int) < (bs.length : Int) := by omega
    generalize bs[k] = y at hx hb0 hb1
    have hn0 : ¬ n = 0 := by omega
    clear hcell hc hby
    go_enter Try.func40, Try.ntmps40
    go_wp2
    go_ret
    refine ⟨_, ?_, ?_, rfl, rfl⟩
    · exact Int.emod_nonneg _ hn0
    · exact Int.emod_lt_of_pos _ (by omega)
  · have hki : (bs.length : Int) ≤ (k : Int) := by omega
    clear hc hby
    go_enter Try.func40, Try.ntmps40
    go_wp2
    go_ret
    exact ⟨0, by omega, by omega, rfl, rfl⟩


/-- the law's own row of places -/
structure PlRow (w : World) (lo g n : Nat) (s : List Int) : Prop where
  len : s.length = n
  own : OwI w lo (.slice (some ⟨g, 0, none⟩) n n) s
theorem PlRow.sl {w : World} {lo g n : Nat} {s : List Int} (h : PlRow w lo g n s) : SlI w (.slice (some ⟨g, 0, none⟩) n n) s := OwI.sl h.own
theorem PlRow.ex {w w' : World} {lo g n : Nat} {s : List Int} (h : PlRow w lo g n s) (hb : Below w.heap.size w w') : PlRow w' lo g n s := ⟨h.len, h.own.ex hb⟩
theorem PlRow.drewN {w : World} {lo g n : Nat} {s : List Int} (h : PlRow w lo g n s) (k : Nat) : PlRow (w.drewN k) lo g n s := ⟨h.len, Ow.drewN h.own k⟩
theorem PlRow.cell {w : World} {lo g n c : Nat} {s : List Int} (h : PlRow w lo g n s) (hc : c < n) : w.cell? ⟨g, c, none⟩ = some (.int .i64 (plc s c)) := by
  obtain ⟨rfl, ho⟩ := h
  rw [OwI.cell ho hc]
  simp [plc, List.getD_eq_getElem?_getD, hc]
theorem PlRow.free {w : World} {lo g n : Nat} {s : List Int} (h : PlRow w lo g n s) (c : Nat) : w.frozen? ⟨g, c, none⟩ = false := by
  obtain ⟨rfl, ho⟩ := h
  exact OwI.free ho c
theorem PlRow.lt {w : World} {lo g n : Nat} {s : List Int} (h : PlRow w lo g n s) : lo ≤ g ∧ g < w.heap.size := OwI.lt h.own g rfl
theorem PlRow.inc {w : World} {lo g n c : Nat} {s : List Int} (h : PlRow w lo g n s) : PlRow (w.setCell ⟨g, c, none⟩ (.int .i64 (plc s c + 1))) lo g n (nxS s (c : Int)) := by
  obtain ⟨rfl, ho⟩ := h
  have h2 := OwI.set ho c (plc s c + 1)
  refine ⟨by simp [nxS], ?_⟩
  show OwI _ lo (.slice _ s.length s.length) (s.set c (plc s c + 1))
  exact h2
theorem PlRow.made {w : World} {lo g n : Nat} (h : Ow w lo 2 1 (.slice (some ⟨g, 0, none⟩) n n) n (List.replicate n (.int .i64 0))) : PlRow w lo g n (zeroS n) :=
  ⟨by simp [zeroS], by unfold OwI zeroS; rw [List.length_replicate, List.map_replicate]; exact h⟩
end Go.Proofs.Ytegabdhmfemgkaa
